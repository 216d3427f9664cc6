import Derived.Test.YtignjjnflcpiiaaGreatDoorWPartR
import Derived.Test.YtignjjnflcpiiaaGreatDoorWKindW
import Derived.Test.YtignjjnflcpiiaaGreatDoorWG7
import Derived.Test.YtignjjnflcpiiaaGreatDoorWPlain1
import Derived.Test.YtignjjnflcpiiaaGreatDoorWShelf
set_option linter.unusedVariables false
set_option linter.unusedSimpArgs false
set_option maxHeartbeats 1000000
namespace Go.Proofs.YtignjjnflcpiiaaGreatDoor
def htot (l : Fs) : Nat := (l.map fun f => f.1.length + f.2.length + 1).sum
mutual
def ms : PT → Nat
  | .mk h b _ ps => htot h + b.length + 1 + msL ps
def msL : List PT → Nat
  | [] => 0
  | p :: r => ms p + msL r
end
mutual
def mh : PT → Nat
  | .mk h _ _ ps => max (htot h) (mhL ps)
def mhL : List PT → Nat
  | [] => 0
  | p :: r => max (mh p) (mhL r)
end
theorem msL_mem {q : PT} : ∀ {ps : List PT}, q ∈ ps → ms q ≤ msL ps
  | p :: r, h => by
    rw [msL]
    rcases List.mem_cons.1 h with rfl | h
    · omega
    · have := msL_mem h; omega
theorem mhL_mem {q : PT} : ∀ {ps : List PT}, q ∈ ps → mh q ≤ mhL ps
  | p :: r, h => by
    rw [mhL]
    rcases List.mem_cons.1 h with rfl | h
    · omega
    · have := mhL_mem h; omega
theorem msL_len : ∀ ps : List PT, ps.length ≤ msL ps
  | [] => Nat.le_refl _
  | .mk h b m ps :: r => by
    have := msL_len r
    rw [msL, ms, List.length_cons]; omega
def Fit (p : PT) : Prop := ms p ≤ 900000 ∧ mh p ≤ 80000
theorem Fit.kid {h : Fs} {b : B} {m : Bool} {ps : List PT} (hf : Fit (.mk h b m ps)) {q : PT} (hq : q ∈ ps) : Fit q := by
  obtain ⟨h1, h2⟩ := hf
  rw [ms] at h1
  rw [mh] at h2
  have := msL_mem hq
  have := mhL_mem hq
  exact ⟨by omega, by omega⟩
theorem htot_len (l : Fs) : l.length ≤ htot l := by
  induction l with
  | nil => exact Nat.le_refl _
  | cons f l ih =>
    simp only [htot, List.map_cons, List.sum_cons, List.length_cons] at ih ⊢; omega
theorem htot_mem {l : Fs} {f : B × B} (h : f ∈ l) : f.1.length + f.2.length + 1 ≤ htot l := by
  induction l with
  | nil => cases h
  | cons g l ih =>
    simp only [htot, List.map_cons, List.sum_cons] at ih ⊢
    rcases List.mem_cons.1 h with rfl | h
    · omega
    · have := ih h; omega
theorem htot_app (a b : Fs) : htot (a ++ b) = htot a + htot b := by simp [htot]
theorem htot_cons (f : B × B) (l : Fs) : htot (f :: l) = f.1.length + f.2.length + 1 + htot l := by simp [htot]
theorem htot_small {l : Fs} (h : htot l ≤ 1000000) : Small l := ⟨Nat.le_trans (htot_len l) h, fun f hf => by have := htot_mem hf; omega⟩
theorem Fit.head {h : Fs} {b : B} {m : Bool} {ps : List PT} (hf : Fit (.mk h b m ps)) : htot h ≤ 80000 ∧ Small h ∧ b.length ≤ 900000 ∧ ps.length ≤ 900000 := by
  obtain ⟨h1, h2⟩ := hf
  rw [ms] at h1
  rw [mh] at h2
  have := msL_len ps
  exact ⟨by omega, htot_small (by omega), by omega, by omega⟩
theorem nameR_sum {s n left : B} (h : nameR tokC blk s = some (n, left)) : n.length + left.length + 1 ≤ s.length := by
  unfold nameR at h
  split at h
  · rename_i r hr
    split at h
    · cases h
    · cases h
      have h1 := dw_le blk (s.dropWhile tokC)
      have h2 := congrArg List.length (List.takeWhile_append_dropWhile (p := tokC) (l := s))
      rw [List.length_append] at h2
      rw [hr] at h1
      simp only [List.length_cons] at h1
      omega
  · cases h
theorem parR_sum {s n v r : B} (h : parR tokC blk s = some ((n, v), r)) : n.length + v.length + r.length + 1 ≤ s.length := by
  unfold parR at h
  have h0 := dw_le blk s
  split at h
  · cases h
  · rename_i n' left hn
    have h1 := nameR_sum hn
    have h2 := dw_le blk left
    split at h
    · cases h
    · rename_i v' r' hv
      cases h
      unfold thenEnd at hv
      split at hv
      · cases hv
      · rename_i v2 r2 hs
        split at hv
        · cases hv
          have h3 := saidR_len hs
          have h4 := dw_le blk r2
          omega
        · cases hv
theorem parsGo_tot : ∀ (m : Nat) (s : B), s.length ≤ m → ∀ (out l : Fs), parsGo tokC blk lowC out s = some l → htot l ≤ htot out + s.length
  | m, [], _, out, l, h => by
    rw [parsGo_nil] at h
    cases h
    exact Nat.le_add_right _ _
  | 0, c :: r, hm, _, _, _ => absurd hm (by simp)
  | m + 1, c :: r, hm, out, l, h => by
    cases hp : parR tokC blk r with
    | none => rw [parsGo_none tokC blk lowC hp] at h; cases h
    | some q =>
      obtain ⟨⟨n, v⟩, r'⟩ := q
      rw [parsGo_some tokC blk lowC hp] at h
      have hs := parR_sum hp
      simp only [List.length_cons] at hm ⊢
      have := parsGo_tot m r' (by omega) _ l h
      rw [htot_app] at this
      simp only [htot, List.map_cons, List.map_nil, List.sum_cons, List.sum_nil, List.length_map] at this ⊢
      omega
theorem readK_tot {v m : B} {ps : Fs} (h : readK tokC blk lowC v = some (m, ps)) : m.length + htot ps ≤ 2 * v.length := by
  unfold readK at h
  split at h
  · split at h
    · cases h
    · rename_i l hl
      cases h
      have h1 := dw_le (· != 59) v
      have h2 := parsGo_tot _ _ (Nat.le_refl _) [] ps hl
      have h3 : (mainOf lowC v).length ≤ v.length := by
        unfold mainOf
        rw [List.length_map]
        exact Nat.le_trans (trimB_len _) (List.takeWhile_sublist _).length_le
      have h4 : (restOf v).length ≤ v.length := h1
      have h5 : htot ([] : Fs) = 0 := rfl
      omega
  · cases h
theorem setBnd_tot (b : B) : ∀ ps : Fs, htot (setBnd b ps) ≤ htot ps + b.length
  | [] => Nat.zero_le _
  | p :: r => by
    have := setBnd_tot b r
    rw [setBnd]
    split
    · rw [htot_cons, htot_cons]; simp only; omega
    · rw [htot_cons, htot_cons]; omega
theorem parW_tot : ∀ ps : Fs, ((ps.map (parW tokC)).flatten).length ≤ 5 * htot ps
  | [] => Nat.zero_le _
  | p :: r => by
    have h1 := parW_tot r
    have h2 := parW_len p
    rw [List.map_cons, List.flatten_cons, List.length_append, htot_cons]; omega
theorem writeKGo_len : ∀ (l : Fs) (n : Nat) (out t : B), writeKGo tokC lowC n out l = .ok t → t = out ++ (l.map (parW tokC)).flatten
  | [], n, out, t, h => by rw [writeKGo] at h; cases h; simp
  | p :: r, n, out, t, h => by
    rw [writeKGo] at h
    split at h
    · have := writeKGo_len r _ _ t h
      rw [this]; simp
    · cases h
theorem rename_len (v b : B) : (renameF v b).length ≤ 12 * v.length + 5 * b.length := by
  unfold renameF
  split
  · exact Nat.zero_le _
  · rename_i m ps h
    have h1 := readK_tot h
    have h2 := setBnd_tot b ps
    split
    · rename_i t ht
      unfold writeK at ht
      split at ht
      · have := writeKGo_len _ _ _ _ ht
        rw [this, List.length_append]
        have := parW_tot (setBnd b ps)
        omega
      · cases ht
    · exact Nat.zero_le _
theorem writeAll_len : ∀ l : Fs, (writeAll l).length ≤ 4 * htot l
  | [] => Nat.zero_le _
  | f :: r => by
    have h1 := writeAll_len r
    have h2 := writeF_len f
    have e : writeAll (f :: r) = writeF f ++ writeAll r := rfl
    rw [e, List.length_append, htot_cons]; omega
theorem noEnc_tot : ∀ l : Fs, htot (noEnc l) ≤ htot l
  | [] => Nat.le_refl _
  | f :: r => by
    have h := noEnc_tot r
    unfold noEnc at h ⊢
    rw [List.filter_cons]
    split
    · rw [htot_cons, htot_cons]; omega
    · rw [htot_cons]; omega
theorem renHead_tot (b : B) : ∀ l : Fs, htot (renHead b l) ≤ 12 * htot l + 5 * b.length
  | [] => Nat.zero_le _
  | f :: r => by
    have h := renHead_tot b r
    rw [renHead]
    split
    · have := rename_len f.2 b
      rw [htot_cons, htot_cons]; simp only; omega
    · rw [htot_cons, htot_cons]; omega
theorem packGo_lenS : ∀ (k : Nat) (b : B), b.length ≤ k → ∀ line : Nat, (packGo line b).length ≤ 2 * b.length + 6
  | _, [], _, line => by simp [packGo]
  | _, [a], _, line => by simp [packGo, quad, crlf]
  | _, [a, b], _, line => by simp [packGo, quad, crlf]
  | 0, a :: b :: c :: r, h, line => absurd h (by simp)
  | k + 1, a :: b :: c :: r, h, line => by
    simp only [List.length_cons] at h ⊢
    have h0 := packGo_lenS k r (by omega) 0
    have h1 := packGo_lenS k r (by omega) (line + 4)
    rw [packGo]
    split
    · simp only [List.length_append, quad, crlf, List.length_cons, List.length_nil]; omega
    · simp only [List.length_append, quad, List.length_cons, List.length_nil]; omega
theorem pack_lenS (b : B) : (pack b).length ≤ 2 * b.length + 6 := packGo_lenS _ b (Nat.le_refl _) 0
theorem short_len (s : B) : (shortF s).2.length ≤ 8 * s.length + 8 ∧ (shortF s).1.length ≤ 16 := by
  have h := pack_lenS s
  unfold shortF
  split
  · exact ⟨by simp only; omega, by simp [b7]⟩
  · split
    · exact ⟨by simp only; omega, by simp [bQP]⟩
    · exact ⟨by simp only; omega, by simp [b64]⟩
theorem numB_len (n : Nat) (h : n < 18446744073709551616) : (numB n).length ≤ 21 := by
  have h1 := Lib.nDigits_le20 n h
  have h2 := Lib.decDigits_length n
  unfold numB
  rw [List.length_cons]; omega
theorem kidsW_len (b : B) : ∀ xs : List B, (kidsW b xs).length = (xs.map fun x => x.length + b.length + 6).sum
  | [] => rfl
  | x :: xs => by
    have h := kidsW_len b xs
    have e : (kidsW b (x :: xs)).length = b.length + x.length + 6 + (kidsW b xs).length := by simp [kidsW]; omega
    rw [e, h, List.map_cons, List.sum_cons]; omega
theorem spots_sum (xs : List B) (K : Nat) (h : (xs.map fun x => x.length + 27).sum ≤ K) : spots xs ≤ K := by
  unfold spots
  refine Nat.le_trans ?_ h
  clear h
  induction xs with
  | nil => exact Nat.le_refl _
  | cons x xs ih => simp only [List.map_cons, List.sum_cons]; omega
theorem sum_mono {xs : List B} {k m : Nat} (h : k ≤ m) : (xs.map fun x => x.length + k).sum ≤ (xs.map fun x => x.length + m).sum := by
  induction xs with
  | nil => exact Nat.le_refl _
  | cons x xs ih => simp only [List.map_cons, List.sum_cons]; omega
theorem mem_sum {xs : List B} {x : B} {k : Nat} (h : x ∈ xs) : x.length + k ≤ (xs.map fun x => x.length + k).sum := by
  induction xs with
  | nil => cases h
  | cons y xs ih =>
    simp only [List.map_cons, List.sum_cons]
    rcases List.mem_cons.1 h with rfl | h
    · omega
    · have := ih h; omega
theorem kids_write_len {d : Nat} (ih : ∀ left p t n, ms p ≤ 900000 → writePt d left p = .ok (t, n) → t.length + 27 ≤ 600 * ms p) :
    ∀ (ps : List PT) (left n : Nat) (xs : List B), msL ps ≤ 900000 → writeKids (writePt d) left ps = .ok (xs, n) → (xs.map fun x => x.length + 27).sum ≤ 600 * msL ps ∧ xs.length = ps.length
  | [], left, n, xs, _, h => by
    rw [writeKids] at h
    cases h
    exact ⟨Nat.zero_le _, rfl⟩
  | p :: ps, left, n, xs, hm, h => by
    obtain ⟨x, k, ys, rfl, h1, h2⟩ := writeKids_cons h
    rw [msL] at hm ⊢
    have a := ih left p x k (by omega) h1
    obtain ⟨b, c⟩ := kids_write_len ih ps k n ys (by omega) h2
    simp only [List.map_cons, List.sum_cons, List.length_cons]
    exact ⟨by omega, by omega⟩
theorem writePt_len : ∀ (d left : Nat) (p : PT) (t : B) (n : Nat), ms p ≤ 900000 → writePt d left p = .ok (t, n) → t.length + 27 ≤ 600 * ms p
  | 0, left, p, t, n, _, h => by rw [writePt] at h; cases h
  | d + 1, 0, p, t, n, _, h => by rw [writePt] at h; cases h
  | d + 1, left + 1, .mk hd bd mn ps, t, n, hm, h => by
    rw [writePt] at h
    rw [ms] at hm ⊢
    split at h
    · cases h
    · split at h
      · cases h
        have h1 := writeAll_len (leafH (.mk hd bd mn ps))
        have h2 := noEnc_tot hd
        have h3 := short_len bd
        have e : leafH (.mk hd bd mn ps) = noEnc hd ++ [(ceN, (shortF bd).1)] := rfl
        have e2 : (PT.mk hd bd mn ps).body = bd := rfl
        rw [e, htot_app] at h1
        simp only [headW, List.length_append, e, e2, List.length_cons, List.length_nil]
        have h4 : htot [(ceN, (shortF bd).1)] ≤ 42 := by
          simp only [htot, List.map_cons, List.map_nil, List.sum_cons, List.sum_nil, ceN, List.length_cons, List.length_nil]; omega
        omega
      · split at h
        · cases h
        · rename_i xs k hk
          cases h
          have hk : writeKids (writePt d) left ps = .ok (xs, _) := hk
          obtain ⟨h1, _⟩ := kids_write_len (writePt_len d) ps left _ xs (by omega) hk
          obtain ⟨_, h2, _⟩ := choose_spec xs
          have h3 := spots_sum xs _ h1
          have h4 := numB_len (chooseN xs) (by omega)
          have h5 := kidsW_len (numB (chooseN xs)) xs
          have h6 : (xs.map fun x => x.length + (numB (chooseN xs)).length + 6).sum ≤ (xs.map fun x => x.length + 27).sum := by
            have e : (fun x : B => x.length + (numB (chooseN xs)).length + 6) = fun x => x.length + ((numB (chooseN xs)).length + 6) := by funext x; omega
            rw [e]
            exact sum_mono (by omega)
          have h7 := writeAll_len (renHead (numB (chooseN xs)) (noEnc hd))
          have h8 := renHead_tot (numB (chooseN xs)) (noEnc hd)
          have h9 := noEnc_tot hd
          have e2 : (PT.mk hd bd mn ps).head = hd := rfl
          simp only [headW, bodyW, List.length_append, e2, List.length_cons, List.length_nil, h5]
          omega
theorem writeKids_len {d left n : Nat} {ps : List PT} {xs : List B} (hm : msL ps ≤ 900000) (h : writeKids (writePt d) left ps = .ok (xs, n)) : (xs.map fun x => x.length + 27).sum ≤ 540000000 ∧ xs.length = ps.length := by
  obtain ⟨h1, h2⟩ := kids_write_len (d := d) (fun left p t n => writePt_len d left p t n) ps left n xs hm h
  exact ⟨by omega, h2⟩
def sl (l : List B) : Nat := (l.map fun x => x.length + 2).sum
end Go.Proofs.YtignjjnflcpiiaaGreatDoor
namespace Go.Proofs.YtignjjnflcpiiaaGreatDoor
open Go.RowKit
def USok (v n p : Nat) : Prop := v < 64 ^ (n % 4) ∧ ((n % 4 = 0 ∧ p ≤ 2) ∨ (n % 4 = 1 ∧ p = 0) ∨ (n % 4 = 2 ∧ p = 0) ∨ (n % 4 = 3 ∧ p ≤ 1))
theorem USok.lt {v n p : Nat} (h : USok v n p) : v < 262144 := by
  have h1 := h.1
  have h2 : n % 4 ≤ 3 := by omega
  have := Nat.pow_le_pow_right (n := 64) (by decide) h2
  omega
theorem drop_cons {s : ByteArray} {k : Nat} (h : k < s.size) : s.data.toList.drop k = s[k] :: s.data.toList.drop (k + 1) := by
  have hl : k < s.data.toList.length := by rw [← Lib.size_eq]; exact h
  rw [List.drop_eq_getElem_cons hl]
  rfl
end Go.Proofs.YtignjjnflcpiiaaGreatDoor
