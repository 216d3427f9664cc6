import Derived.Test.YtignjjnflcpiiaaGreatDoorKG14
import Derived.Lib.ItoaLen
set_option linter.unusedVariables false
set_option linter.unusedSimpArgs false
set_option maxHeartbeats 1000000
namespace Go.Proofs.YtignjjnflcpiiaaGreatDoor
def valD (ds : B) : Nat := ds.foldl (fun a c => a * 10 + (c.toNat - 48)) 0
theorem ofNat_d {k : Nat} (h : k < 10) : (UInt8.ofNat (48 + k)).toNat = 48 + k := by
  rw [UInt8.toNat_ofNat']; omega
theorem dec_dig : ∀ (u : Nat), ∀ c ∈ Lib.decDigits u, 48 ≤ c.toNat ∧ c.toNat ≤ 57 := by
  intro u
  induction u using Nat.strongRecOn with
  | _ u ih =>
    intro c hc
    rw [Lib.decDigits] at hc
    split at hc
    · rename_i h
      rw [List.mem_singleton] at hc
      rw [hc, ofNat_d h]; omega
    · rename_i h
      rcases List.mem_append.1 hc with hc | hc
      · exact ih _ (by omega) c hc
      · rw [List.mem_singleton] at hc
        rw [hc, ofNat_d (Nat.mod_lt _ (by decide))]; omega
theorem valD_dec (u : Nat) : valD (Lib.decDigits u) = u := by
  induction u using Nat.strongRecOn with
  | _ u ih =>
    rw [Lib.decDigits]
    split
    · rename_i h
      show 0 * 10 + ((UInt8.ofNat (48 + u)).toNat - 48) = u
      rw [ofNat_d h]; omega
    · rename_i h
      unfold valD at ih ⊢
      rw [List.foldl_append, ih _ (by omega)]
      show u / 10 * 10 + ((UInt8.ofNat (48 + u % 10)).toNat - 48) = u
      rw [ofNat_d (Nat.mod_lt _ (by decide))]; omega
theorem pow_dig (u : Nat) (h : 1 ≤ u) : 10 ^ Lib.nDigits u ≤ 10 * u := by
  induction u using Nat.strongRecOn with
  | _ u ih =>
    by_cases hu : u < 10
    · rw [Lib.nDigits_small hu]; omega
    · rw [Lib.nDigits_big hu, Nat.pow_succ]
      have := ih (u / 10) (by omega) (by omega)
      omega
theorem nodup_le {α : Type} [DecidableEq α] : ∀ (l m : List α), l.Nodup → (∀ x ∈ l, x ∈ m) → l.length ≤ m.length
  | [], m, _, _ => Nat.zero_le _
  | a :: l, m, hn, hs => by
    rw [List.nodup_cons] at hn
    have ha := hs a List.mem_cons_self
    have := nodup_le l (m.erase a) hn.2 (fun x hx => (List.mem_erase_of_ne (fun e => hn.1 (by rw [← e]; exact hx))).2 (hs x (List.mem_cons_of_mem _ hx)))
    rw [List.length_erase_of_mem ha] at this
    have := List.length_pos_of_mem ha
    simp only [List.length_cons]; omega
def sufs (l : List B) : List B := l.flatMap fun s => (List.range (s.length + 1)).map fun i => s.drop i
theorem sufs_len (l : List B) : (sufs l).length = spots l := by
  unfold sufs spots
  induction l with
  | nil => rfl
  | cons s l ih => simp [ih]
theorem not_free {l : List B} {n : Nat} (h : free l n = false) : ∃ x ∈ sufs l, (45 :: 45 :: numB n).isPrefixOf x = true := by
  unfold free at h
  rw [List.all_eq_false] at h
  obtain ⟨s, hs, h⟩ := h
  have h : Lib.contains s (45 :: 45 :: numB n) = true := by simpa using h
  rw [Lib.contains] at h
  have h := of_decide_eq_true h
  rcases Lib.index_spec s (45 :: 45 :: numB n) with ⟨h1, _⟩ | ⟨i, h1, h2, h3, _⟩
  · rw [h1] at h; exact absurd h (by decide)
  · exact ⟨s.drop i, List.mem_flatMap.2 ⟨s, hs, List.mem_map.2 ⟨i, List.mem_range.2 (by omega), rfl⟩⟩, h3⟩
theorem free_at (l : List B) : ∃ n, n < 100 * (spots l + 1) ∧ free l n = true := by
  by_cases h0 : spots l = 0
  · refine ⟨0, by omega, ?_⟩
    cases l with
    | nil => rfl
    | cons s l => simp [spots] at h0
  · have h1 := Lib.lt_pow_nDigits (spots l)
    have h2 := pow_dig (spots l) (by omega)
    generalize hk : Lib.nDigits (spots l) = k at h1 h2
    have key : ∃ n, n < 9 * 10 ^ k ∧ free l (10 ^ k + n) = true := by
      refine Classical.byContradiction fun hno => ?_
      have hall : ∀ n, n < 9 * 10 ^ k → free l (10 ^ k + n) = false := fun n hn => by
        cases hf : free l (10 ^ k + n) with
        | false => rfl
        | true => exact absurd ⟨n, hn, hf⟩ hno
      have hsub : ∀ x ∈ (List.range (9 * 10 ^ k)).map (10 ^ k + ·), x ∈ (sufs l).map fun s => valD ((s.drop 3).take (k + 1)) := by
        intro x hx
        obtain ⟨n, hn, rfl⟩ := List.mem_map.1 hx
        have hn := List.mem_range.1 hn
        obtain ⟨s, hs, hp⟩ := not_free (hall n hn)
        refine List.mem_map.2 ⟨s, hs, ?_⟩
        obtain ⟨t, ht⟩ := List.isPrefixOf_iff_prefix.1 hp
        have hd : Lib.nDigits (10 ^ k + n) = k + 1 := Lib.nDigits_unique k _ (by omega) (by rw [Nat.pow_succ]; omega)
        have e : s.drop 3 = Lib.decDigits (10 ^ k + n) ++ t := by rw [← ht]; rfl
        rw [e, List.take_left' (by rw [Lib.decDigits_length, hd]), valD_dec]
      have := nodup_le _ _ (by
        rw [List.nodup_iff_pairwise_ne]
        refine List.Pairwise.map _ (fun a b (hab : a ≠ b) => by omega) (List.nodup_iff_pairwise_ne.1 List.nodup_range)) hsub
      rw [List.length_map, List.length_map, List.length_range, sufs_len] at this
      omega
    obtain ⟨n, hn, hf⟩ := key
    exact ⟨_, by omega, hf⟩
theorem chooseGo_spec (l : List B) : ∀ (k n m : Nat), n ≤ m → m < n + k → free l m = true → free l (chooseGo l k n) = true ∧ chooseGo l k n ≤ m ∧ n ≤ chooseGo l k n ∧ ∀ j, n ≤ j → j < chooseGo l k n → free l j = false
  | 0, n, m, h1, h2, _ => absurd h1 (by omega)
  | k + 1, n, m, h1, h2, hf => by
    rw [chooseGo]
    cases hn : free l n with
    | true => exact ⟨hn, h1, Nat.le_refl _, fun j h3 h4 => absurd (show j < n from h4) (by omega)⟩
    | false =>
      have hnm : ¬ n = m := fun e => by rw [e, hf] at hn; cases hn
      obtain ⟨a, b, c, d⟩ := chooseGo_spec l k (n + 1) m (by omega) (by omega) hf
      have e : (match false with | true => n | false => chooseGo l k (n + 1)) = chooseGo l k (n + 1) := rfl
      refine ⟨a, b, Nat.le_trans (Nat.le_succ n) c, fun j h3 h4 => ?_⟩
      by_cases hj : j = n
      · rw [hj]; exact hn
      · exact d j (by omega) h4
theorem choose_spec (l : List B) : free l (chooseN l) = true ∧ chooseN l < 100 * (spots l + 1) ∧ ∀ j, j < chooseN l → free l j = false := by
  obtain ⟨m, h1, h2⟩ := free_at l
  obtain ⟨a, b, _, d⟩ := chooseGo_spec l (100 * (spots l + 1)) 0 m (Nat.zero_le _) (by omega) h2
  exact ⟨a, Nat.lt_of_le_of_lt b h1, fun j hj => d j (Nat.zero_le _) hj⟩
theorem numB_no13 (n : Nat) : ∀ c ∈ numB n, c ≠ 13 := fun c hc => by
  rcases List.mem_cons.1 hc with rfl | hc
  · decide
  · rintro rfl
    have := dec_dig n 13 hc
    exact absurd this.1 (by decide)
theorem numB_good {n : Nat} (h : n < 18446744073709551616) : bndGood (numB n) = true := by
  have h1 := Lib.nDigits_le20 n h
  have h2 := Lib.decDigits_length n
  have h3 := Lib.nDigits_pos n
  unfold bndGood
  rw [Bool.and_eq_true]
  refine ⟨decide_eq_true (by unfold numB; simp only [List.length_cons]; omega), ?_⟩
  rw [Bool.not_eq_true', beq_eq_false_iff_ne]
  intro h
  have hm := List.mem_of_getLast? h
  unfold numB at hm
  rcases List.mem_cons.1 hm with h | h
  · cases h
  · have := dec_dig n 32 h
    exact absurd this.1 (by decide)
theorem trimB_id {t : B} (h1 : ∀ c, t.head? = some c → blk c = false) (h2 : ∀ c, t.getLast? = some c → blk c = false) : trimB t = t := by
  have hk : ∀ c, (([32, 9] : B).contains c) = blk c := fun c => by
    rw [blk, Bool.eq_iff_iff]; simp
  have key : ∀ l : B, (∀ c, l.head? = some c → blk c = false) → l.dropWhile (([32, 9] : B).contains ·) = l := by
    intro l hl
    cases l with
    | nil => rfl
    | cons c l => rw [List.dropWhile_cons, hk, hl c rfl]; rfl
  unfold trimB Lib.trimS Lib.trimLeftS Lib.trimRightS
  rw [key t.reverse (fun c hc => h2 c (by rw [List.head?_reverse] at hc; exact hc)), List.reverse_reverse, key t h1]
theorem tok_vis {c : UInt8} (h : tokC c = true) : 32 ≤ c.toNat ∧ c.toNat ≤ 126 := tfT.vis c h
theorem mainOk_all {m : B} (hm : mainOk tokC m = true) : m ≠ [] ∧ ∀ c ∈ m, (32 ≤ c.toNat ∧ c.toNat ≤ 126) ∧ blk c = false := by
  have hno := mainOk_no tkT hm
  have hm' := hm
  unfold mainOk at hm
  rw [cut1] at hm
  simp only [Bool.and_eq_true, Bool.or_eq_true, Bool.not_eq_true'] at hm
  obtain ⟨h1, h2⟩ := hm
  have e := List.takeWhile_append_dropWhile (p := (· != (47 : UInt8))) (l := m)
  refine ⟨?_, fun c hc => ⟨?_, (hno c hc).2⟩⟩
  · rintro rfl
    simp [tokQ] at h1
  · rw [← e] at hc
    rcases List.mem_append.1 hc with hc | hc
    · exact tok_vis ((tokQ_iff.1 h1).2 c hc)
    · cases hd : m.dropWhile (· != 47) with
      | nil => rw [hd] at hc; cases hc
      | cons x r =>
        have hx : x = 47 := by simpa using dw_head_not _ _ _ _ hd
        rw [hd] at hc h2
        have ha : m.any (· == 47) = true := by
          rw [List.any_eq_true]
          exact ⟨x, by rw [← e, hd]; simp, by simp [hx]⟩
        rw [ha] at h2
        have h2 : tokQ tokC r = true := by simpa using h2
        rcases List.mem_cons.1 hc with hc | hc
        · rw [hc, hx]; decide
        · exact tok_vis ((tokQ_iff.1 h2).2 c hc)
theorem tok_nblk {c : UInt8} (h : tokC c = true) : blk c = false := by
  cases hb : blk c with
  | false => rfl
  | true => have := tkT.kT hb; rw [h] at this; cases this
theorem escV_vis : ∀ (v : B), okV v = true → ∀ c ∈ escV v, 32 ≤ c.toNat ∧ c.toNat ≤ 126 := by
  intro v hv c hc
  obtain ⟨d, hd, hc⟩ := List.mem_flatMap.1 hc
  have := of_decide_eq_true (List.all_eq_true.1 hv d hd)
  unfold escC at hc
  split at hc
  · rcases List.mem_cons.1 hc with rfl | hc
    · decide
    · rw [List.mem_singleton.1 hc]; exact this
  · rw [List.mem_singleton.1 hc]; exact this
theorem valW_facts {v : B} (hv : okV v = true) : (∀ c ∈ valW tokC v, 32 ≤ c.toNat ∧ c.toNat ≤ 126) ∧ ∃ a c, valW tokC v = a ++ [c] ∧ blk c = false := by
  unfold valW
  split
  · rename_i h
    refine ⟨fun c hc => tok_vis ((tokQ_iff.1 h).2 c hc), ?_⟩
    have hne := (tokQ_iff.1 h).1
    exact ⟨v.dropLast, v.getLast hne, (List.dropLast_concat_getLast hne).symm, tok_nblk ((tokQ_iff.1 h).2 _ (List.getLast_mem hne))⟩
  · refine ⟨fun c hc => ?_, 34 :: escV v, 34, by simp, by decide⟩
    rcases List.mem_cons.1 hc with rfl | hc
    · decide
    · rcases List.mem_append.1 hc with hc | hc
      · exact escV_vis v hv c hc
      · rw [List.mem_singleton.1 hc]; decide
theorem parW_facts {p : B × B} (hp : okP tokC lowC p = true) : (∀ c ∈ parW tokC p, 32 ≤ c.toNat ∧ c.toNat ≤ 126) ∧ ∃ a c, parW tokC p = a ++ [c] ∧ blk c = false := by
  simp only [okP, Bool.and_eq_true, decide_eq_true_eq] at hp
  obtain ⟨h1, _, h3⟩ := hp
  obtain ⟨h4, a, c, h5, h6⟩ := valW_facts h3
  refine ⟨fun c hc => ?_, 59 :: 32 :: (p.1 ++ 61 :: a), c, by rw [parW, h5]; simp, h6⟩
  unfold parW at hc
  rcases List.mem_cons.1 hc with rfl | hc
  · decide
  rcases List.mem_cons.1 hc with rfl | hc
  · decide
  rcases List.mem_append.1 hc with hc | hc
  · exact tok_vis ((tokQ_iff.1 h1).2 c hc)
  rcases List.mem_cons.1 hc with rfl | hc
  · decide
  · exact h4 c hc
theorem writeK_value {m t : B} {l : List (B × B)} (h : writeK tokC lowC m l = .ok t) : valueB t = true := by
  unfold writeK at h
  split at h
  · rename_i hm
    rw [Bool.and_eq_true] at hm
    obtain ⟨h1, rfl⟩ := writeKGo_inv l 0 m t h
    obtain ⟨hne, hall⟩ := mainOk_all hm.1
    have hvis : ∀ c ∈ m ++ (l.map (parW tokC)).flatten, 32 ≤ c.toNat ∧ c.toNat ≤ 126 := by
      intro c hc
      rcases List.mem_append.1 hc with hc | hc
      · exact (hall c hc).1
      · obtain ⟨x, hx, hc⟩ := List.mem_flatten.1 hc
        obtain ⟨p, hp, rfl⟩ := List.mem_map.1 hx
        exact (parW_facts (h1 p hp)).1 c hc
    unfold valueB
    rw [Bool.and_eq_true]
    refine ⟨List.all_eq_true.2 fun c hc => ?_, decide_eq_true (trimB_id (fun c hc => ?_) (fun c hc => ?_))⟩
    · have := hvis c hc
      exact decide_eq_true (by omega)
    · cases m with
      | nil => exact absurd rfl hne
      | cons x r =>
        have : x = c := by simpa using hc
        exact this ▸ (hall x List.mem_cons_self).2
    · by_cases hl : l = []
      · subst hl
        rw [List.map_nil, List.flatten_nil, List.append_nil] at hc
        exact (hall c (List.mem_of_getLast? hc)).2
      · obtain ⟨l', p, rfl⟩ : ∃ l' p, l = l' ++ [p] := ⟨l.dropLast, l.getLast hl, (List.dropLast_concat_getLast hl).symm⟩
        obtain ⟨_, a, x, h5, h6⟩ := parW_facts (h1 p (by simp))
        have : m ++ ((l' ++ [p]).map (parW tokC)).flatten = (m ++ ((l'.map (parW tokC)).flatten ++ a)) ++ [x] := by simp [h5]
        rw [this, List.getLast?_append] at hc
        have : x = c := by simpa using hc
        exact this ▸ h6
  · cases h
theorem setBnd_val (b : B) : ∀ ps : List (B × B), (bndVal ps).isSome = true → bndVal (setBnd b ps) = some b
  | [], h => by cases h
  | p :: r, h => by
    unfold bndVal at h ⊢
    rw [setBnd]
    by_cases hp : p.1 = bndN
    · rw [if_pos hp, List.find?_cons]
      simp [hp]
    · rw [if_neg hp]
      rw [List.find?_cons] at h ⊢
      rw [decide_eq_false hp] at h ⊢
      exact setBnd_val b r h
theorem setBnd_two (b : B) : ∀ ps : List (B × B), setBnd b (setBnd b ps) = setBnd b ps
  | [] => rfl
  | p :: r => by
    rw [setBnd]
    by_cases hp : p.1 = bndN
    · rw [if_pos hp, setBnd, if_pos hp]
    · rw [if_neg hp, setBnd, if_neg hp, setBnd_two b r]
theorem setBnd_ok {b : B} (hb : okV b = true) : ∀ {ps : List (B × B)}, (∀ p ∈ ps, okP tokC lowC p = true) → ∀ p ∈ setBnd b ps, okP tokC lowC p = true
  | [], _, p, hp => by cases hp
  | q :: r, h, p, hp => by
    rw [setBnd] at hp
    have hq := h q List.mem_cons_self
    by_cases he : q.1 = bndN
    · rw [if_pos he] at hp
      rcases List.mem_cons.1 hp with rfl | hp
      · simp only [okP, Bool.and_eq_true] at hq ⊢
        exact ⟨hq.1, hq.2.1, hb⟩
      · exact h p (List.mem_cons_of_mem _ hp)
    · rw [if_neg he] at hp
      rcases List.mem_cons.1 hp with rfl | hp
      · exact hq
      · exact setBnd_ok hb (fun p hp => h p (List.mem_cons_of_mem _ hp)) p hp
theorem numB_okV (n : Nat) : okV (numB n) = true := List.all_eq_true.2 fun c hc => decide_eq_true (by
  rcases List.mem_cons.1 hc with rfl | hc
  · decide
  · have := dec_dig n c hc; omega)
theorem rename_facts {v m b : B} {ps : List (B × B)} (hb : okV b = true) (h : readK tokC blk lowC v = some (m, ps)) : ∃ t, renameF v b = t ∧ writeK tokC lowC m (setBnd b ps) = .ok t ∧ valueB t = true ∧ readK tokC blk lowC t = some (m, setBnd b ps) := by
  obtain ⟨t0, ht0⟩ := write_read tfT h
  unfold writeK at ht0
  split at ht0
  · rename_i hm
    obtain ⟨h1, _⟩ := writeKGo_inv ps 0 m t0 ht0
    have hw : writeK tokC lowC m (setBnd b ps) = .ok (m ++ ((setBnd b ps).map (parW tokC)).flatten) := by
      unfold writeK
      rw [hm]
      exact writeKGo_ok _ 0 m (setBnd_ok hb h1)
    refine ⟨_, ?_, hw, writeK_value hw, read_write tkT hw⟩
    unfold renameF
    rw [h]
    simp only
    rw [hw]
  · cases ht0
theorem noEnc_mem {l : List (B × B)} {f : B × B} (h : f ∈ noEnc l) : f ∈ l ∧ lowB f.1 ≠ ceB := by
  have := List.mem_filter.1 h
  exact ⟨this.1, by simpa using this.2⟩
theorem ct_ne_ce : ctB ≠ ceB := by decide
theorem getF_cons (f : B × B) (r : List (B × B)) (n : B) : getF (f :: r) n = if lowB f.1 = n then some f.2 else getF r n := by
  unfold getF
  rw [List.find?_cons]
  by_cases h : lowB f.1 = n
  · rw [if_pos h, decide_eq_true h]; rfl
  · rw [if_neg h, decide_eq_false h]
theorem getF_noEnc : ∀ l : List (B × B), getF (noEnc l) ctB = getF l ctB
  | [] => rfl
  | f :: r => by
    unfold noEnc
    rw [List.filter_cons]
    by_cases h : lowB f.1 = ceB
    · rw [decide_eq_true h, getF_cons, if_neg (c := lowB f.1 = ctB) (fun e => ct_ne_ce (e.symm.trans h))]
      exact getF_noEnc r
    · rw [decide_eq_false h]
      simp only [Bool.not_false, if_true]
      rw [getF_cons, getF_cons]
      have := getF_noEnc r
      unfold noEnc at this
      rw [this]
theorem getF_app (l : List (B × B)) (f : B × B) (n : B) : getF (l ++ [f]) n = match getF l n with
    | some v => some v
    | none => if lowB f.1 = n then some f.2 else none := by
  induction l with
  | nil => rw [List.nil_append, getF_cons]; rfl
  | cons g r ih =>
    rw [List.cons_append, getF_cons, getF_cons, ih]
    split <;> rfl
theorem getF_none {l : List (B × B)} {n : B} (h : ∀ f ∈ l, lowB f.1 ≠ n) : getF l n = none := by
  unfold getF
  rw [List.find?_eq_none.2 (fun f hf => by simpa using h f hf)]
  rfl
theorem getF_mem : ∀ {l : List (B × B)} {n v : B}, getF l n = some v → ∃ f ∈ l, lowB f.1 = n ∧ f.2 = v
  | [], n, v, h => by cases h
  | f :: r, n, v, h => by
    rw [getF_cons] at h
    split at h
    · rename_i hf
      exact ⟨f, List.mem_cons_self, hf, Option.some.inj h⟩
    · obtain ⟨g, h1, h2⟩ := getF_mem h
      exact ⟨g, List.mem_cons_of_mem _ h1, h2⟩
theorem renHead_get (b : B) : ∀ (l : List (B × B)), getF (renHead b l) ctB = (getF l ctB).map (renameF · b)
  | [] => rfl
  | f :: r => by
    rw [renHead]
    by_cases h : lowB f.1 = ctB
    · rw [if_pos h, getF_cons, getF_cons, if_pos h, if_pos h]; rfl
    · rw [if_neg h, getF_cons, getF_cons, if_neg h, if_neg h]; exact renHead_get b r
theorem renHead_two {b v : B} : ∀ {l : List (B × B)}, getF l ctB = some v → renameF (renameF v b) b = renameF v b → renHead b (renHead b l) = renHead b l
  | [], h, _ => by cases h
  | f :: r, h, he => by
    rw [getF_cons] at h
    rw [renHead]
    split at h
    · rename_i hf
      cases h
      rw [if_pos hf, renHead, if_pos hf, he]
    · rename_i hf
      rw [if_neg hf, renHead, if_neg hf, renHead_two h he]
theorem renHead_right {b v : B} : ∀ {l : List (B × B)}, rightB l = true → getF l ctB = some v → valueB (renameF v b) = true → rightB (renHead b l) = true
  | [], _, h, _ => by cases h
  | f :: r, hr, h, hv => by
    simp only [rightB, List.all_cons, Bool.and_eq_true] at hr
    rw [getF_cons] at h
    rw [renHead]
    split at h
    · rename_i hf
      cases h
      rw [if_pos hf]
      simp only [rightB, List.all_cons, Bool.and_eq_true]
      simp only [okF, Bool.and_eq_true] at hr ⊢
      exact ⟨⟨hr.1.1, hv⟩, hr.2⟩
    · rename_i hf
      rw [if_neg hf]
      simp only [rightB, List.all_cons, Bool.and_eq_true]
      exact ⟨hr.1, renHead_right hr.2 h hv⟩
theorem right_noEnc {l : List (B × B)} (h : rightB l = true) : rightB (noEnc l) = true := List.all_eq_true.2 fun f hf => List.all_eq_true.1 h f (noEnc_mem hf).1
theorem noEnc_id {l : List (B × B)} (h : ∀ f ∈ l, lowB f.1 ≠ ceB) : noEnc l = l := List.filter_eq_self.2 fun f hf => by simpa using h f hf
theorem renHead_names (b : B) : ∀ {l : List (B × B)}, (∀ f ∈ l, lowB f.1 ≠ ceB) → ∀ f ∈ renHead b l, lowB f.1 ≠ ceB
  | [], _, f, hf => by cases hf
  | g :: r, h, f, hf => by
    rw [renHead] at hf
    split at hf
    · rcases List.mem_cons.1 hf with rfl | hf
      · exact h g List.mem_cons_self
      · exact h f (List.mem_cons_of_mem _ hf)
    · rcases List.mem_cons.1 hf with rfl | hf
      · exact h f List.mem_cons_self
      · exact renHead_names b (fun f hf => h f (List.mem_cons_of_mem _ hf)) f hf
theorem noEnc_two (l : List (B × B)) : noEnc (noEnc l) = noEnc l := noEnc_id fun f hf => (noEnc_mem hf).2
theorem oursF_noEnc (m : Bool) : ∀ (fi : Bool) (l : List (B × B)), oursF m fi (noEnc l) = oursF m fi l
  | _, [] => rfl
  | fi, f :: r => by
    unfold noEnc
    rw [List.filter_cons]
    by_cases h : lowB f.1 = ceB
    · rw [decide_eq_true h]
      simp only [Bool.not_true, Bool.false_eq_true, if_false]
      rw [oursF, if_pos h]
      exact oursF_noEnc m fi r
    · rw [decide_eq_false h]
      simp only [Bool.not_false, if_true]
      rw [oursF, oursF, if_neg h, if_neg h]
      have e1 := oursF_noEnc m false r
      have e2 := oursF_noEnc m fi r
      unfold noEnc at e1 e2
      rw [e1, e2]
theorem oursF_app (m : Bool) {f : B × B} (h : lowB f.1 = ceB) : ∀ (fi : Bool) (l : List (B × B)), oursF m fi (l ++ [f]) = oursF m fi l
  | fi, [] => by simp [oursF, h]
  | fi, g :: r => by
    rw [List.cons_append, oursF, oursF, oursF_app m h, oursF_app m h]
theorem oursF_ren (b : B) : ∀ (l : List (B × B)), oursF true true (renHead b l) = oursF true true l
  | [] => rfl
  | f :: r => by
    rw [renHead]
    by_cases h : lowB f.1 = ctB
    · rw [if_pos h, oursF, oursF, if_neg (fun e => ct_ne_ce (h.symm.trans e)), if_neg (fun e => ct_ne_ce (h.symm.trans e)), if_pos h, if_pos h]
      rfl
    · rw [if_neg h, oursF, oursF, if_neg h, if_neg h, oursF_ren b r]
theorem low_ce : lowB ceN = ceB := by decide
theorem nameB_ce : nameB ceN = true := by decide
theorem short_value (s : B) : valueB (shortF s).1 = true := by
  have h1 : valueB b7 = true := by decide
  have h2 : valueB bQP = true := by decide
  have h3 : valueB b64 = true := by decide
  unfold shortF
  split
  · exact h1
  · split
    · exact h2
    · exact h3
theorem decode_back (l : List (B × B)) (hl : ∀ f ∈ l, lowB f.1 ≠ ceB) (s : B) : decodeF (l ++ [(ceN, (shortF s).1)]) (shortF s).2 = .ok s := by
  unfold decodeF
  rw [getF_app, getF_none hl]
  simp only [low_ce, if_true]
  unfold shortF
  cases asIs s with
  | true => rfl
  | false =>
    simp only
    split
    · show (match unquote (quote s) with | some x => Res.ok x | none => .err 3) = _
      rw [unquote_quote]
    · show (match unpack (pack s) with | some x => Res.ok x | none => .err 3) = _
      rw [unpack_pack]
theorem bndF_of {l l' : List (B × B)} (h : getF l' ctB = getF l ctB) : bndF l' = bndF l := by unfold bndF; rw [h]
theorem kids_len {b : B} : ∀ {xs : List B}, spots xs ≤ (kidsW b xs).length ∧ ∀ x ∈ xs, x.length ≤ (kidsW b xs).length
  | [] => ⟨by simp [spots], fun x hx => by cases hx⟩
  | y :: xs => by
    obtain ⟨h1, h2⟩ := kids_len (b := b) (xs := xs)
    have e : (kidsW b (y :: xs)).length = b.length + y.length + 6 + (kidsW b xs).length := by simp [kidsW]; omega
    refine ⟨?_, fun x hx => ?_⟩
    · rw [e]
      simp only [spots, List.map_cons, List.sum_cons] at h1 ⊢
      omega
    · rw [e]
      rcases List.mem_cons.1 hx with rfl | hx
      · omega
      · have := h2 x hx; omega
theorem headW_read {l : List (B × B)} (h : rightB l = true) (rest : B) : ∃ l0, readH (headW l ++ rest) = .ok l0 rest ∧ cleanF l0 = .ok l := by
  refine ⟨l.map fun f => (f.1, 32 :: f.2), ?_, ?_⟩
  · have := read_all rest l [] 0 h
    rw [List.nil_append] at this
    rw [headW, List.append_assoc]
    exact this
  · have := clean_back l [] 0 h
    rw [List.nil_append] at this
    exact this
theorem free_no {l : List B} {n : Nat} (h : free l n = true) : ∀ x ∈ l, Lib.contains x (45 :: 45 :: numB n) = false := fun x hx => by
  have := List.all_eq_true.1 h x hx
  simpa using this
theorem bndF_many {l : List (B × B)} {b0 : B} (h : bndF l = some (some b0)) : ∃ v m ps, getF l ctB = some v ∧ readK tokC blk lowC v = some (m, ps) ∧ mulB.isPrefixOf m = true ∧ bndVal ps = some b0 := by
  unfold bndF at h
  split at h
  · cases h
  · rename_i v hv
    split at h
    · cases h
    · rename_i m ps hk
      split at h
      · cases h
      · rename_i hp
        split at h
        · cases h
        · rename_i b hb
          split at h
          · cases h; exact ⟨v, m, ps, hv, hk, hp, hb⟩
          · cases h
theorem writeKids_cons {f : Nat → PT → Res (B × Nat)} {left : Nat} {p : PT} {r : List PT} {xs : List B} {n : Nat} (h : writeKids f left (p :: r) = .ok (xs, n)) : ∃ x k ys, xs = x :: ys ∧ f left p = .ok (x, k) ∧ writeKids f k r = .ok (ys, n) := by
  rw [writeKids] at h
  split at h
  · cases h
  · rename_i x k hx
    split at h
    · cases h
    · rename_i ys n' hy
      cases h
      exact ⟨x, k, ys, rfl, hx, hy⟩
theorem readKids_cons {f : Nat → B → Res (PT × Nat)} {left : Nat} {x : B} {r : List B} {ps : List PT} {n : Nat} (h : readKids f left (x :: r) = .ok (ps, n)) : ∃ p k qs, ps = p :: qs ∧ f left x = .ok (p, k) ∧ readKids f k r = .ok (qs, n) := by
  rw [readKids] at h
  split at h
  · cases h
  · rename_i p k hp
    split at h
    · cases h
    · rename_i qs n' hq
      cases h
      exact ⟨p, k, qs, rfl, hp, hq⟩
theorem kids_back {d : Nat} (ih : ∀ left p t n, writePt d left p = .ok (t, n) → t.length ≤ 20000 → ∃ r, readPt d left t = .ok (r, n) ∧ likesB p r = true ∧ writePt d left r = .ok (t, n)) :
    ∀ (ps : List PT) (left n : Nat) (xs : List B), writeKids (writePt d) left ps = .ok (xs, n) → (∀ x ∈ xs, x.length ≤ 20000) →
      ∃ rs, readKids (readPt d) left xs = .ok (rs, n) ∧ ps.length = rs.length ∧ likesL ps rs = true ∧ writeKids (writePt d) left rs = .ok (xs, n)
  | [], left, n, xs, h, _ => by
    rw [writeKids] at h
    cases h
    exact ⟨[], rfl, rfl, rfl, rfl⟩
  | p :: ps, left, n, xs, h, hx => by
    obtain ⟨x, k, ys, rfl, h1, h2⟩ := writeKids_cons h
    obtain ⟨r, a1, a2, a3⟩ := ih left p x k h1 (hx x List.mem_cons_self)
    obtain ⟨rs, b1, b2, b3, b4⟩ := kids_back ih ps k n ys h2 (fun y hy => hx y (List.mem_cons_of_mem _ hy))
    refine ⟨r :: rs, ?_, by simp [b2], ?_, ?_⟩
    · rw [readKids, a1]; simp only; rw [b1]
    · rw [likesL, a2, b3]; rfl
    · rw [writeKids, a3]; simp only; rw [b4]
theorem okPt_leaf {p : PT} (h : okPt p = true) (hm : p.many = false) : rightB p.head = true ∧ bndF p.head = some none ∧ p.parts = [] := by
  unfold okPt at h
  rw [Bool.and_eq_true] at h
  obtain ⟨h1, h2⟩ := h
  split at h2
  · cases h2
  · rename_i hb
    rw [hm] at h2
    exact ⟨h1, hb, by simpa using h2⟩
  · rw [hm] at h2; cases h2
theorem okPt_many {p : PT} (h : okPt p = true) (hm : p.many = true) : rightB p.head = true ∧ ∃ b, bndF p.head = some (some b) ∧ p.body = [] := by
  unfold okPt at h
  rw [Bool.and_eq_true] at h
  obtain ⟨h1, h2⟩ := h
  split at h2
  · cases h2
  · rw [hm] at h2; cases h2
  · rename_i b hb
    rw [hm] at h2
    exact ⟨h1, b, hb, by simpa using h2⟩
theorem write_back : ∀ (d left : Nat) (p : PT) (t : B) (n : Nat), writePt d left p = .ok (t, n) → t.length ≤ 20000 → ∃ r, readPt d left t = .ok (r, n) ∧ likesB p r = true ∧ writePt d left r = .ok (t, n)
  | 0, left, p, t, n, h, _ => by rw [writePt] at h; cases h
  | d + 1, 0, p, t, n, h, _ => by rw [writePt] at h; cases h
  | d + 1, left + 1, .mk hd bd mn ps, t, n, h, ht => by
    have ih := write_back d
    rw [writePt] at h
    cases ho : okPt (.mk hd bd mn ps) with
    | false => rw [ho] at h; cases h
    | true =>
      rw [ho] at h
      cases mn with
      | false =>
        obtain ⟨h1, h2, h3⟩ := okPt_leaf ho rfl
        have h3 : ps = [] := h3
        subst h3
        have h : Res.ok (headW (leafH (.mk hd bd false [])) ++ (shortF bd).2, left) = Res.ok (t, n) := h
        cases h
        have hl : leafH (.mk hd bd false []) = noEnc hd ++ [(ceN, (shortF bd).1)] := rfl
        rw [hl] at ht ⊢
        have hr : rightB (noEnc hd ++ [(ceN, (shortF bd).1)]) = true := by
          unfold rightB
          rw [List.all_append]
          have h4 := right_noEnc h1
          have h4' : (noEnc hd).all okF = true := h4
          rw [h4']
          simp [okF, nameB_ce, short_value]
        obtain ⟨l0, r1, r2⟩ := headW_read hr (shortF bd).2
        have hb : bndF (noEnc hd ++ [(ceN, (shortF bd).1)]) = some none := by
          rw [bndF_of (l := hd)]
          · exact h2
          · rw [getF_app, getF_noEnc]
            rw [low_ce, if_neg ct_ne_ce.symm]
            split
            · rename_i e; exact e.symm
            · rename_i e; exact e.symm
        have hdc := decode_back (noEnc hd) (fun f hf => (noEnc_mem hf).2) bd
        refine ⟨.mk (noEnc hd ++ [(ceN, (shortF bd).1)]) bd false [], ?_, ?_, ?_⟩
        · rw [readPt, r1]
          simp only
          rw [r2]
          simp only
          rw [hb]
          simp only
          rw [hdc]
        · rw [likesB, likesL]
          rw [oursF_app false low_ce, oursF_noEnc]
          simp
        · rw [writePt]
          have ho' : okPt (.mk (noEnc hd ++ [(ceN, (shortF bd).1)]) bd false []) = true := by
            unfold okPt
            show (rightB (noEnc hd ++ [(ceN, (shortF bd).1)]) && _) = true
            rw [hr]
            show (true && match bndF (noEnc hd ++ [(ceN, (shortF bd).1)]) with | none => false | some none => !false && ([] : List PT).isEmpty | some (some _) => false && bd.isEmpty) = true
            rw [hb]; rfl
          rw [ho']
          have hl2 : leafH (.mk (noEnc hd ++ [(ceN, (shortF bd).1)]) bd false []) = noEnc hd ++ [(ceN, (shortF bd).1)] := by
            show noEnc (noEnc hd ++ [(ceN, (shortF bd).1)]) ++ [(ceN, (shortF bd).1)] = _
            unfold noEnc
            rw [List.filter_append]
            have := noEnc_two hd
            unfold noEnc at this
            rw [this]
            simp [low_ce]
          show Res.ok (headW (leafH (.mk (noEnc hd ++ [(ceN, (shortF bd).1)]) bd false [])) ++ (shortF bd).2, left) = _
          rw [hl2]
      | true =>
        obtain ⟨h1, b0, h2, h3⟩ := okPt_many ho rfl
        have h3 : bd = [] := h3
        subst h3
        simp only [PT.many] at h
        cases hk : writeKids (writePt d) left (PT.parts (.mk hd [] true ps)) with
        | err e => rw [hk] at h; cases h
        | ok q =>
          obtain ⟨xs, k⟩ := q
          rw [hk] at h
          have h : Res.ok (headW (renHead (numB (chooseN xs)) (noEnc hd)) ++ bodyW (numB (chooseN xs)) xs, k) = Res.ok (t, n) := h
          have hk : writeKids (writePt d) left ps = .ok (xs, k) := hk
          injection h with h
          injection h with h5 h6
          subst h5 h6
          obtain ⟨hf, hlt, _⟩ := choose_spec xs
          obtain ⟨hs1, hs2⟩ := kids_len (b := numB (chooseN xs)) (xs := xs)
          have hbl : (kidsW (numB (chooseN xs)) xs).length ≤ 20000 := by
            have : (kidsW (numB (chooseN xs)) xs).length ≤ (bodyW (numB (chooseN xs)) xs).length := by
              unfold bodyW; rw [List.length_append]; omega
            rw [List.length_append] at ht
            omega
          have hgood := numB_good (n := chooseN xs) (by omega)
          have hokV := numB_okV (chooseN xs)
          have hcut := cut_back (numB_no13 (chooseN xs)) xs (free_no hf)
          obtain ⟨rs, k1, k2, k3, k4⟩ := kids_back (d := d) ih ps left k xs hk (fun x hx => Nat.le_trans (hs2 x hx) hbl)
          obtain ⟨b, hbd⟩ : ∃ b, b = numB (chooseN xs) := ⟨_, rfl⟩
          rw [← hbd] at ht hs1 hs2 hbl hgood hokV hcut ⊢
          obtain ⟨v, m, qs, g1, g2, g3, g4⟩ := bndF_many h2
          obtain ⟨t1, e1, e2, e3, e4⟩ := rename_facts hokV g2
          have gn : getF (noEnc hd) ctB = some v := by rw [getF_noEnc]; exact g1
          have hr : rightB (renHead b (noEnc hd)) = true := renHead_right (right_noEnc h1) gn (by rw [e1]; exact e3)
          obtain ⟨l0, r1, r2⟩ := headW_read hr (bodyW b xs)
          have gr : getF (renHead b (noEnc hd)) ctB = some t1 := by rw [renHead_get, gn, ← e1]; rfl
          have hb : bndF (renHead b (noEnc hd)) = some (some b) := by
            unfold bndF
            rw [gr]
            simp only
            rw [e4]
            simp only
            rw [g3]
            simp only
            rw [setBnd_val b qs (by rw [g4]; rfl)]
            simp only
            rw [hgood]
          have hne : ∀ f ∈ renHead b (noEnc hd), lowB f.1 ≠ ceB := renHead_names b (fun f hf => (noEnc_mem hf).2)
          refine ⟨.mk (renHead b (noEnc hd)) [] true rs, ?_, ?_, ?_⟩
          · rw [readPt, r1]
            simp only
            rw [r2]
            simp only
            rw [hb]
            simp only
            rw [hcut]
            simp only
            rw [k1]
          · rw [likesB, k3, oursF_ren, oursF_noEnc, k2]
            simp
          · rw [writePt]
            have ho' : okPt (.mk (renHead b (noEnc hd)) [] true rs) = true := by
              unfold okPt
              show (rightB (renHead b (noEnc hd)) && _) = true
              rw [hr]
              show (true && match bndF (renHead b (noEnc hd)) with | none => false | some none => !true && rs.isEmpty | some (some _) => true && ([] : B).isEmpty) = true
              rw [hb]; rfl
            rw [ho']
            simp only [PT.many, PT.parts, PT.head]
            rw [k4]
            simp only
            rw [← hbd, noEnc_id hne, renHead_two gn ?_]
            rw [e1]
            unfold renameF
            rw [e4]
            simp only
            rw [setBnd_two, e2]
theorem readStep_names {out o : List (B × B)} {ln : B} (h : readStep out ln = some o) (ho : ∀ f ∈ out, nameB f.1 = true) : ∀ f ∈ o, nameB f.1 = true := by
  unfold readStep at h
  split at h
  · split at h
    · cases h
    · rename_i hne
      cases h
      intro f hf
      rcases List.mem_or_eq_of_mem_set hf with hf | rfl
      · exact ho f hf
      · exact ho (lastF out) (lastF_mem hne)
  · split at h
    · rename_i hn
      cases h
      intro f hf
      rcases List.mem_append.1 hf with hf | hf
      · exact ho f hf
      · rw [List.mem_singleton.1 hf]; exact hn.2
    · cases h
theorem readGo_names : ∀ (m : Nat) (s : B), s.length ≤ m → ∀ (out : List (B × B)) (n : Nat), (∀ f ∈ out, nameB f.1 = true) → ∀ l rest, readGo out n s = .ok l rest → ∀ f ∈ l, nameB f.1 = true := by
  intro m
  induction m with
  | zero =>
    intro s hs out n ho l rest h
    rw [List.eq_nil_of_length_eq_zero (Nat.le_zero.1 hs), readGo_nil] at h
    cases h; exact ho
  | succ m ih =>
    intro s hs out n ho l rest h
    by_cases h0 : s = []
    · rw [h0, readGo_nil] at h
      cases h; exact ho
    by_cases h1 : (Lib.cut s [13, 10]).1 = []
    · rw [readGo_end h0 h1] at h
      cases h; exact ho
    cases h2 : readStep out (Lib.cut s [13, 10]).1 with
    | none => rw [readGo_bad h0 h1 h2] at h; cases h
    | some o =>
      rw [readGo_go h0 h1 h2] at h
      have hlt := cut_lt (sep := [13, 10]) h0 (by simp)
      exact ih _ (by omega) o _ (readStep_names h2 ho) l rest h
theorem cleanGo_right : ∀ (l out : List (B × B)) (n : Nat) (o : List (B × B)), (∀ f ∈ l, nameB f.1 = true) → rightB out = true → cleanGo n out l = .ok o → rightB o = true
  | [], out, n, o, _, ho, h => by rw [cleanGo] at h; cases h; exact ho
  | f :: r, out, n, o, hn, ho, h => by
    rw [cleanGo] at h
    split at h
    · rename_i hv
      refine cleanGo_right r _ _ o (fun g hg => hn g (List.mem_cons_of_mem _ hg)) ?_ h
      unfold rightB at ho ⊢
      rw [List.all_append, ho]
      simp [okF, hv, hn f List.mem_cons_self]
    · cases h
theorem read_right {s rest : B} {l0 l : List (B × B)} (h1 : readH s = .ok l0 rest) (h2 : cleanF l0 = .ok l) : rightB l = true :=
  cleanGo_right l0 [] 0 l (readGo_names _ s (Nat.le_refl _) [] 0 (fun f hf => by cases hf) l0 rest h1) rfl h2
theorem kids_write {d : Nat} (ih : ∀ left s p n, readPt d left s = .ok (p, n) → ∃ t, writePt d left p = .ok (t, n)) : ∀ (xs : List B) (left n : Nat) (ps : List PT), readKids (readPt d) left xs = .ok (ps, n) → ∃ ts, writeKids (writePt d) left ps = .ok (ts, n)
  | [], left, n, ps, h => by
    rw [readKids] at h
    cases h
    exact ⟨[], rfl⟩
  | x :: xs, left, n, ps, h => by
    obtain ⟨p, k, qs, rfl, h1, h2⟩ := readKids_cons h
    obtain ⟨t, a⟩ := ih left x p k h1
    obtain ⟨ts, b⟩ := kids_write ih xs k n qs h2
    exact ⟨t :: ts, by rw [writeKids, a]; simp only; rw [b]⟩
theorem read_writes : ∀ (d left : Nat) (s : B) (p : PT) (n : Nat), readPt d left s = .ok (p, n) → ∃ t, writePt d left p = .ok (t, n)
  | 0, left, s, p, n, h => by rw [readPt] at h; cases h
  | d + 1, 0, s, p, n, h => by rw [readPt] at h; cases h
  | d + 1, left + 1, s, p, n, h => by
    have ih := read_writes d
    rw [readPt] at h
    split at h
    · cases h
    · rename_i l0 body h1
      split at h
      · cases h
      · rename_i l h2
        have hr := read_right h1 h2
        split at h
        · cases h
        · rename_i hb
          split at h
          · cases h
          · rename_i x hx
            cases h
            rw [writePt]
            have ho : okPt (.mk l x false []) = true := by
              unfold okPt
              show (rightB l && match bndF l with | none => false | some none => !false && ([] : List PT).isEmpty | some (some _) => false && x.isEmpty) = true
              rw [hr, hb]; rfl
            rw [ho]
            exact ⟨_, rfl⟩
        · rename_i b hb
          split at h
          · cases h
          · rename_i xs hxs
            split at h
            · cases h
            · rename_i ps k hk
              cases h
              obtain ⟨ts, ht⟩ := kids_write ih xs left _ ps hk
              rw [writePt]
              have ho : okPt (.mk l [] true ps) = true := by
                unfold okPt
                show (rightB l && match bndF l with | none => false | some none => !true && ps.isEmpty | some (some _) => true && ([] : B).isEmpty) = true
                rw [hr, hb]; rfl
              rw [ho]
              simp only [PT.many, PT.parts]
              rw [ht]
              exact ⟨_, rfl⟩
end Go.Proofs.YtignjjnflcpiiaaGreatDoor
