import Derived.Test.YtignjjnflcpiiaaGreatDoorWG21
import Derived.Lib.ItoaLen
set_option linter.unusedVariables false
set_option linter.unusedSimpArgs false
set_option maxHeartbeats 1000000
namespace Go.Proofs.YtignjjnflcpiiaaGreatDoor
def valD (ds : B) : Nat := ds.foldl (fun a c => a * 10 + (c.toNat - 48)) 0
theorem ofNat_d {k : Nat} (h : k < 10) : (UInt8.ofNat (48 + k)).toNat = 48 + k := by
  rw [UInt8.toNat_ofNat']; omega
theorem dec_dig : ∀ (u : Nat), ∀ c ∈ Lib.decDigits u, 48 ≤ c.toNat ∧ c.toNat ≤ 57 := by
  intro u
  induction u using Nat.strongRecOn with
  | _ u ih =>
    intro c hc
    rw [Lib.decDigits] at hc
    split at hc
    · rename_i h
      rw [List.mem_singleton] at hc
      rw [hc, ofNat_d h]; omega
    · rename_i h
      rcases List.mem_append.1 hc with hc | hc
      · exact ih _ (by omega) c hc
      · rw [List.mem_singleton] at hc
        rw [hc, ofNat_d (Nat.mod_lt _ (by decide))]; omega
theorem valD_dec (u : Nat) : valD (Lib.decDigits u) = u := by
  induction u using Nat.strongRecOn with
  | _ u ih =>
    rw [Lib.decDigits]
    split
    · rename_i h
      show 0 * 10 + ((UInt8.ofNat (48 + u)).toNat - 48) = u
      rw [ofNat_d h]; omega
    · rename_i h
      unfold valD at ih ⊢
      rw [List.foldl_append, ih _ (by omega)]
      show u / 10 * 10 + ((UInt8.ofNat (48 + u % 10)).toNat - 48) = u
      rw [ofNat_d (Nat.mod_lt _ (by decide))]; omega
theorem pow_dig (u : Nat) (h : 1 ≤ u) : 10 ^ Lib.nDigits u ≤ 10 * u := by
  induction u using Nat.strongRecOn with
  | _ u ih =>
    by_cases hu : u < 10
    · rw [Lib.nDigits_small hu]; omega
    · rw [Lib.nDigits_big hu, Nat.pow_succ]
      have := ih (u / 10) (by omega) (by omega)
      omega
theorem nodup_le {α : Type} [DecidableEq α] : ∀ (l m : List α), l.Nodup → (∀ x ∈ l, x ∈ m) → l.length ≤ m.length
  | [], m, _, _ => Nat.zero_le _
  | a :: l, m, hn, hs => by
    rw [List.nodup_cons] at hn
    have ha := hs a List.mem_cons_self
    have := nodup_le l (m.erase a) hn.2 (fun x hx => (List.mem_erase_of_ne (fun e => hn.1 (by rw [← e]; exact hx))).2 (hs x (List.mem_cons_of_mem _ hx)))
    rw [List.length_erase_of_mem ha] at this
    have := List.length_pos_of_mem ha
    simp only [List.length_cons]; omega
def sufs (l : List B) : List B := l.flatMap fun s => (List.range (s.length + 1)).map fun i => s.drop i
theorem sufs_len (l : List B) : (sufs l).length = spots l := by
  unfold sufs spots
  induction l with
  | nil => rfl
  | cons s l ih => simp [ih]
theorem not_free {l : List B} {n : Nat} (h : free l n = false) : ∃ x ∈ sufs l, (45 :: 45 :: numB n).isPrefixOf x = true := by
  unfold free at h
  rw [List.all_eq_false] at h
  obtain ⟨s, hs, h⟩ := h
  have h : Lib.contains s (45 :: 45 :: numB n) = true := by simpa using h
  rw [Lib.contains] at h
  have h := of_decide_eq_true h
  rcases Lib.index_spec s (45 :: 45 :: numB n) with ⟨h1, _⟩ | ⟨i, h1, h2, h3, _⟩
  · rw [h1] at h; exact absurd h (by decide)
  · exact ⟨s.drop i, List.mem_flatMap.2 ⟨s, hs, List.mem_map.2 ⟨i, List.mem_range.2 (by omega), rfl⟩⟩, h3⟩
theorem free_at (l : List B) : ∃ n, n < 100 * (spots l + 1) ∧ free l n = true := by
  by_cases h0 : spots l = 0
  · refine ⟨0, by omega, ?_⟩
    cases l with
    | nil => rfl
    | cons s l => simp [spots] at h0
  · have h1 := Lib.lt_pow_nDigits (spots l)
    have h2 := pow_dig (spots l) (by omega)
    generalize hk : Lib.nDigits (spots l) = k at h1 h2
    have key : ∃ n, n < 9 * 10 ^ k ∧ free l (10 ^ k + n) = true := by
      refine Classical.byContradiction fun hno => ?_
      have hall : ∀ n, n < 9 * 10 ^ k → free l (10 ^ k + n) = false := fun n hn => by
        cases hf : free l (10 ^ k + n) with
        | false => rfl
        | true => exact absurd ⟨n, hn, hf⟩ hno
      have hsub : ∀ x ∈ (List.range (9 * 10 ^ k)).map (10 ^ k + ·), x ∈ (sufs l).map fun s => valD ((s.drop 3).take (k + 1)) := by
        intro x hx
        obtain ⟨n, hn, rfl⟩ := List.mem_map.1 hx
        have hn := List.mem_range.1 hn
        obtain ⟨s, hs, hp⟩ := not_free (hall n hn)
        refine List.mem_map.2 ⟨s, hs, ?_⟩
        obtain ⟨t, ht⟩ := List.isPrefixOf_iff_prefix.1 hp
        have hd : Lib.nDigits (10 ^ k + n) = k + 1 := Lib.nDigits_unique k _ (by omega) (by rw [Nat.pow_succ]; omega)
        have e : s.drop 3 = Lib.decDigits (10 ^ k + n) ++ t := by rw [← ht]; rfl
        rw [e, List.take_left' (by rw [Lib.decDigits_length, hd]), valD_dec]
      have := nodup_le _ _ (by
        rw [List.nodup_iff_pairwise_ne]
        refine List.Pairwise.map _ (fun a b (hab : a ≠ b) => by omega) (List.nodup_iff_pairwise_ne.1 List.nodup_range)) hsub
      rw [List.length_map, List.length_map, List.length_range, sufs_len] at this
      omega
    obtain ⟨n, hn, hf⟩ := key
    exact ⟨_, by omega, hf⟩
theorem chooseGo_spec (l : List B) : ∀ (k n m : Nat), n ≤ m → m < n + k → free l m = true → free l (chooseGo l k n) = true ∧ chooseGo l k n ≤ m ∧ n ≤ chooseGo l k n ∧ ∀ j, n ≤ j → j < chooseGo l k n → free l j = false
  | 0, n, m, h1, h2, _ => absurd h1 (by omega)
  | k + 1, n, m, h1, h2, hf => by
    rw [chooseGo]
    cases hn : free l n with
    | true => exact ⟨hn, h1, Nat.le_refl _, fun j h3 h4 => absurd (show j < n from h4) (by omega)⟩
    | false =>
      have hnm : ¬ n = m := fun e => by rw [e, hf] at hn; cases hn
      obtain ⟨a, b, c, d⟩ := chooseGo_spec l k (n + 1) m (by omega) (by omega) hf
      have e : (match false with | true => n | false => chooseGo l k (n + 1)) = chooseGo l k (n + 1) := rfl
      refine ⟨a, b, Nat.le_trans (Nat.le_succ n) c, fun j h3 h4 => ?_⟩
      by_cases hj : j = n
      · rw [hj]; exact hn
      · exact d j (by omega) h4
theorem choose_spec (l : List B) : free l (chooseN l) = true ∧ chooseN l < 100 * (spots l + 1) ∧ ∀ j, j < chooseN l → free l j = false := by
  obtain ⟨m, h1, h2⟩ := free_at l
  obtain ⟨a, b, _, d⟩ := chooseGo_spec l (100 * (spots l + 1)) 0 m (Nat.zero_le _) (by omega) h2
  exact ⟨a, Nat.lt_of_le_of_lt b h1, fun j hj => d j (Nat.zero_le _) hj⟩
theorem trimB_id {t : B} (h1 : ∀ c, t.head? = some c → blk c = false) (h2 : ∀ c, t.getLast? = some c → blk c = false) : trimB t = t := by
  have hk : ∀ c, (([32, 9] : B).contains c) = blk c := fun c => by
    rw [blk, Bool.eq_iff_iff]; simp
  have key : ∀ l : B, (∀ c, l.head? = some c → blk c = false) → l.dropWhile (([32, 9] : B).contains ·) = l := by
    intro l hl
    cases l with
    | nil => rfl
    | cons c l => rw [List.dropWhile_cons, hk, hl c rfl]; rfl
  unfold trimB Lib.trimS Lib.trimLeftS Lib.trimRightS
  rw [key t.reverse (fun c hc => h2 c (by rw [List.head?_reverse] at hc; exact hc)), List.reverse_reverse, key t h1]
theorem tok_vis {c : UInt8} (h : tokC c = true) : 32 ≤ c.toNat ∧ c.toNat ≤ 126 := tfT.vis c h
theorem mainOk_all {m : B} (hm : mainOk tokC m = true) : m ≠ [] ∧ ∀ c ∈ m, (32 ≤ c.toNat ∧ c.toNat ≤ 126) ∧ blk c = false := by
  have hno := mainOk_no tkT hm
  have hm' := hm
  unfold mainOk at hm
  rw [cut1] at hm
  simp only [Bool.and_eq_true, Bool.or_eq_true, Bool.not_eq_true'] at hm
  obtain ⟨h1, h2⟩ := hm
  have e := List.takeWhile_append_dropWhile (p := (· != (47 : UInt8))) (l := m)
  refine ⟨?_, fun c hc => ⟨?_, (hno c hc).2⟩⟩
  · rintro rfl
    simp [tokQ] at h1
  · rw [← e] at hc
    rcases List.mem_append.1 hc with hc | hc
    · exact tok_vis ((tokQ_iff.1 h1).2 c hc)
    · cases hd : m.dropWhile (· != 47) with
      | nil => rw [hd] at hc; cases hc
      | cons x r =>
        have hx : x = 47 := by simpa using dw_head_not _ _ _ _ hd
        rw [hd] at hc h2
        have ha : m.any (· == 47) = true := by
          rw [List.any_eq_true]
          exact ⟨x, by rw [← e, hd]; simp, by simp [hx]⟩
        rw [ha] at h2
        have h2 : tokQ tokC r = true := by simpa using h2
        rcases List.mem_cons.1 hc with hc | hc
        · rw [hc, hx]; decide
        · exact tok_vis ((tokQ_iff.1 h2).2 c hc)
theorem tok_nblk {c : UInt8} (h : tokC c = true) : blk c = false := by
  cases hb : blk c with
  | false => rfl
  | true => have := tkT.kT hb; rw [h] at this; cases this
theorem escV_vis : ∀ (v : B), okV v = true → ∀ c ∈ escV v, 32 ≤ c.toNat ∧ c.toNat ≤ 126 := by
  intro v hv c hc
  obtain ⟨d, hd, hc⟩ := List.mem_flatMap.1 hc
  have := of_decide_eq_true (List.all_eq_true.1 hv d hd)
  unfold escC at hc
  split at hc
  · rcases List.mem_cons.1 hc with rfl | hc
    · decide
    · rw [List.mem_singleton.1 hc]; exact this
  · rw [List.mem_singleton.1 hc]; exact this
theorem valW_facts {v : B} (hv : okV v = true) : (∀ c ∈ valW tokC v, 32 ≤ c.toNat ∧ c.toNat ≤ 126) ∧ ∃ a c, valW tokC v = a ++ [c] ∧ blk c = false := by
  unfold valW
  split
  · rename_i h
    refine ⟨fun c hc => tok_vis ((tokQ_iff.1 h).2 c hc), ?_⟩
    have hne := (tokQ_iff.1 h).1
    exact ⟨v.dropLast, v.getLast hne, (List.dropLast_concat_getLast hne).symm, tok_nblk ((tokQ_iff.1 h).2 _ (List.getLast_mem hne))⟩
  · refine ⟨fun c hc => ?_, 34 :: escV v, 34, by simp, by decide⟩
    rcases List.mem_cons.1 hc with rfl | hc
    · decide
    · rcases List.mem_append.1 hc with hc | hc
      · exact escV_vis v hv c hc
      · rw [List.mem_singleton.1 hc]; decide
theorem parW_facts {p : B × B} (hp : okP tokC lowC p = true) : (∀ c ∈ parW tokC p, 32 ≤ c.toNat ∧ c.toNat ≤ 126) ∧ ∃ a c, parW tokC p = a ++ [c] ∧ blk c = false := by
  simp only [okP, Bool.and_eq_true, decide_eq_true_eq] at hp
  obtain ⟨h1, _, h3⟩ := hp
  obtain ⟨h4, a, c, h5, h6⟩ := valW_facts h3
  refine ⟨fun c hc => ?_, 59 :: 32 :: (p.1 ++ 61 :: a), c, by rw [parW, h5]; simp, h6⟩
  unfold parW at hc
  rcases List.mem_cons.1 hc with rfl | hc
  · decide
  rcases List.mem_cons.1 hc with rfl | hc
  · decide
  rcases List.mem_append.1 hc with hc | hc
  · exact tok_vis ((tokQ_iff.1 h1).2 c hc)
  rcases List.mem_cons.1 hc with rfl | hc
  · decide
  · exact h4 c hc
theorem writeK_value {m t : B} {l : List (B × B)} (h : writeK tokC lowC m l = .ok t) : valueB t = true := by
  unfold writeK at h
  split at h
  · rename_i hm
    rw [Bool.and_eq_true] at hm
    obtain ⟨h1, rfl⟩ := writeKGo_inv l 0 m t h
    obtain ⟨hne, hall⟩ := mainOk_all hm.1
    have hvis : ∀ c ∈ m ++ (l.map (parW tokC)).flatten, 32 ≤ c.toNat ∧ c.toNat ≤ 126 := by
      intro c hc
      rcases List.mem_append.1 hc with hc | hc
      · exact (hall c hc).1
      · obtain ⟨x, hx, hc⟩ := List.mem_flatten.1 hc
        obtain ⟨p, hp, rfl⟩ := List.mem_map.1 hx
        exact (parW_facts (h1 p hp)).1 c hc
    unfold valueB
    rw [Bool.and_eq_true]
    refine ⟨List.all_eq_true.2 fun c hc => ?_, decide_eq_true (trimB_id (fun c hc => ?_) (fun c hc => ?_))⟩
    · have := hvis c hc
      exact decide_eq_true (by omega)
    · cases m with
      | nil => exact absurd rfl hne
      | cons x r =>
        have : x = c := by simpa using hc
        exact this ▸ (hall x List.mem_cons_self).2
    · by_cases hl : l = []
      · subst hl
        rw [List.map_nil, List.flatten_nil, List.append_nil] at hc
        exact (hall c (List.mem_of_getLast? hc)).2
      · obtain ⟨l', p, rfl⟩ : ∃ l' p, l = l' ++ [p] := ⟨l.dropLast, l.getLast hl, (List.dropLast_concat_getLast hl).symm⟩
        obtain ⟨_, a, x, h5, h6⟩ := parW_facts (h1 p (by simp))
        have : m ++ ((l' ++ [p]).map (parW tokC)).flatten = (m ++ ((l'.map (parW tokC)).flatten ++ a)) ++ [x] := by simp [h5]
        rw [this, List.getLast?_append] at hc
        have : x = c := by simpa using hc
        exact this ▸ h6
  · cases h
theorem setBnd_ok {b : B} (hb : okV b = true) : ∀ {ps : List (B × B)}, (∀ p ∈ ps, okP tokC lowC p = true) → ∀ p ∈ setBnd b ps, okP tokC lowC p = true
  | [], _, p, hp => by cases hp
  | q :: r, h, p, hp => by
    rw [setBnd] at hp
    have hq := h q List.mem_cons_self
    by_cases he : q.1 = bndN
    · rw [if_pos he] at hp
      rcases List.mem_cons.1 hp with rfl | hp
      · simp only [okP, Bool.and_eq_true] at hq ⊢
        exact ⟨hq.1, hq.2.1, hb⟩
      · exact h p (List.mem_cons_of_mem _ hp)
    · rw [if_neg he] at hp
      rcases List.mem_cons.1 hp with rfl | hp
      · exact hq
      · exact setBnd_ok hb (fun p hp => h p (List.mem_cons_of_mem _ hp)) p hp
theorem numB_okV (n : Nat) : okV (numB n) = true := List.all_eq_true.2 fun c hc => decide_eq_true (by
  rcases List.mem_cons.1 hc with rfl | hc
  · decide
  · have := dec_dig n c hc; omega)
theorem rename_facts {v m b : B} {ps : List (B × B)} (hb : okV b = true) (h : readK tokC blk lowC v = some (m, ps)) : ∃ t, renameF v b = t ∧ writeK tokC lowC m (setBnd b ps) = .ok t ∧ valueB t = true ∧ readK tokC blk lowC t = some (m, setBnd b ps) := by
  obtain ⟨t0, ht0⟩ := write_read tfT h
  unfold writeK at ht0
  split at ht0
  · rename_i hm
    obtain ⟨h1, _⟩ := writeKGo_inv ps 0 m t0 ht0
    have hw : writeK tokC lowC m (setBnd b ps) = .ok (m ++ ((setBnd b ps).map (parW tokC)).flatten) := by
      unfold writeK
      rw [hm]
      exact writeKGo_ok _ 0 m (setBnd_ok hb h1)
    refine ⟨_, ?_, hw, writeK_value hw, read_write tkT hw⟩
    unfold renameF
    rw [h]
    simp only
    rw [hw]
  · cases ht0
theorem noEnc_mem {l : List (B × B)} {f : B × B} (h : f ∈ noEnc l) : f ∈ l ∧ lowB f.1 ≠ ceB := by
  have := List.mem_filter.1 h
  exact ⟨this.1, by simpa using this.2⟩
theorem ct_ne_ce : ctB ≠ ceB := by decide
theorem getF_cons (f : B × B) (r : List (B × B)) (n : B) : getF (f :: r) n = if lowB f.1 = n then some f.2 else getF r n := by
  unfold getF
  rw [List.find?_cons]
  by_cases h : lowB f.1 = n
  · rw [if_pos h, decide_eq_true h]; rfl
  · rw [if_neg h, decide_eq_false h]
theorem getF_noEnc : ∀ l : List (B × B), getF (noEnc l) ctB = getF l ctB
  | [] => rfl
  | f :: r => by
    unfold noEnc
    rw [List.filter_cons]
    by_cases h : lowB f.1 = ceB
    · rw [decide_eq_true h, getF_cons, if_neg (c := lowB f.1 = ctB) (fun e => ct_ne_ce (e.symm.trans h))]
      exact getF_noEnc r
    · rw [decide_eq_false h]
      simp only [Bool.not_false, if_true]
      rw [getF_cons, getF_cons]
      have := getF_noEnc r
      unfold noEnc at this
      rw [this]
theorem getF_app (l : List (B × B)) (f : B × B) (n : B) : getF (l ++ [f]) n = match getF l n with
    | some v => some v
    | none => if lowB f.1 = n then some f.2 else none := by
  induction l with
  | nil => rw [List.nil_append, getF_cons]; rfl
  | cons g r ih =>
    rw [List.cons_append, getF_cons, getF_cons, ih]
    split <;> rfl
theorem getF_none {l : List (B × B)} {n : B} (h : ∀ f ∈ l, lowB f.1 ≠ n) : getF l n = none := by
  unfold getF
  rw [List.find?_eq_none.2 (fun f hf => by simpa using h f hf)]
  rfl
theorem getF_mem : ∀ {l : List (B × B)} {n v : B}, getF l n = some v → ∃ f ∈ l, lowB f.1 = n ∧ f.2 = v
  | [], n, v, h => by cases h
  | f :: r, n, v, h => by
    rw [getF_cons] at h
    split at h
    · rename_i hf
      exact ⟨f, List.mem_cons_self, hf, Option.some.inj h⟩
    · obtain ⟨g, h1, h2⟩ := getF_mem h
      exact ⟨g, List.mem_cons_of_mem _ h1, h2⟩
theorem renHead_right {b v : B} : ∀ {l : List (B × B)}, rightB l = true → getF l ctB = some v → valueB (renameF v b) = true → rightB (renHead b l) = true
  | [], _, h, _ => by cases h
  | f :: r, hr, h, hv => by
    simp only [rightB, List.all_cons, Bool.and_eq_true] at hr
    rw [getF_cons] at h
    rw [renHead]
    split at h
    · rename_i hf
      cases h
      rw [if_pos hf]
      simp only [rightB, List.all_cons, Bool.and_eq_true]
      simp only [okF, Bool.and_eq_true] at hr ⊢
      exact ⟨⟨hr.1.1, hv⟩, hr.2⟩
    · rename_i hf
      rw [if_neg hf]
      simp only [rightB, List.all_cons, Bool.and_eq_true]
      exact ⟨hr.1, renHead_right hr.2 h hv⟩
theorem right_noEnc {l : List (B × B)} (h : rightB l = true) : rightB (noEnc l) = true := List.all_eq_true.2 fun f hf => List.all_eq_true.1 h f (noEnc_mem hf).1
theorem noEnc_id {l : List (B × B)} (h : ∀ f ∈ l, lowB f.1 ≠ ceB) : noEnc l = l := List.filter_eq_self.2 fun f hf => by simpa using h f hf
theorem low_ce : lowB ceN = ceB := by decide
theorem nameB_ce : nameB ceN = true := by decide
theorem short_value (s : B) : valueB (shortF s).1 = true := by
  have h1 : valueB b7 = true := by decide
  have h2 : valueB bQP = true := by decide
  have h3 : valueB b64 = true := by decide
  unfold shortF
  split
  · exact h1
  · split
    · exact h2
    · exact h3
theorem writeKids_cons {f : Nat → PT → Res (B × Nat)} {left : Nat} {p : PT} {r : List PT} {xs : List B} {n : Nat} (h : writeKids f left (p :: r) = .ok (xs, n)) : ∃ x k ys, xs = x :: ys ∧ f left p = .ok (x, k) ∧ writeKids f k r = .ok (ys, n) := by
  rw [writeKids] at h
  split at h
  · cases h
  · rename_i x k hx
    split at h
    · cases h
    · rename_i ys n' hy
      cases h
      exact ⟨x, k, ys, rfl, hx, hy⟩
end Go.Proofs.YtignjjnflcpiiaaGreatDoor
