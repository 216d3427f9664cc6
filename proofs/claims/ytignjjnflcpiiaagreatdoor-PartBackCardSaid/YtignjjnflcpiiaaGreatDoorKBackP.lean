import Derived.Test.YtignjjnflcpiiaaGreatDoorKPartS
import Derived.Lib.Case
set_option linter.unusedVariables false
set_option linter.unusedSimpArgs false
set_option maxHeartbeats 1000000
namespace Go.Proofs.YtignjjnflcpiiaaGreatDoor
def NmD : Nat → PT → Prop
  | 0, _ => False
  | d + 1, .mk h b _ ps => Small h ∧ (∀ f ∈ h, nameB f.1 = true) ∧ b.length ≤ 1000000 ∧ ps.length ≤ 1000000 ∧ ∀ q ∈ ps, NmD d q
theorem kids_nm {d : Nat} (ih : ∀ left p t n, Fit p → writePt d left p = .ok (t, n) → NmD d p) : ∀ (ps : List PT) (left n : Nat) (xs : List B), (∀ q ∈ ps, Fit q) → writeKids (writePt d) left ps = .ok (xs, n) → ∀ q ∈ ps, NmD d q
  | [], left, n, xs, hf, h => fun q hq => by cases hq
  | p :: ps, left, n, xs, hf, h => by
    obtain ⟨x, k, ys, rfl, h1, h2⟩ := writeKids_cons h
    intro q hq
    rcases List.mem_cons.1 hq with rfl | hq
    · exact ih left _ x k (hf _ List.mem_cons_self) h1
    · exact kids_nm ih ps k n ys (fun q hq => hf q (List.mem_cons_of_mem _ hq)) h2 q hq
theorem okPt_right {p : PT} (h : okPt p = true) : rightB p.head = true := by
  unfold okPt at h
  rw [Bool.and_eq_true] at h
  exact h.1
theorem right_names {l : Fs} (h : rightB l = true) : ∀ f ∈ l, nameB f.1 = true := fun f hf => by
  have := List.all_eq_true.1 h f hf
  unfold okF at this
  rw [Bool.and_eq_true] at this
  exact this.1
theorem write_nm : ∀ (d left : Nat) (p : PT) (t : B) (n : Nat), Fit p → writePt d left p = .ok (t, n) → NmD d p
  | 0, left, p, t, n, _, h => by rw [writePt] at h; cases h
  | d + 1, 0, p, t, n, _, h => by rw [writePt] at h; cases h
  | d + 1, left + 1, .mk hd bd m ps, t, n, hf, h => by
    obtain ⟨_, hsm, hbl, hpl⟩ := hf.head
    rw [writePt] at h
    split at h
    · cases h
    · rename_i ho
      have hr : rightB hd = true := okPt_right ho
      refine ⟨hsm, right_names hr, by omega, by omega, ?_⟩
      split at h
      · rename_i hm
        have hm : m = false := hm
        obtain ⟨_, _, h3⟩ := okPt_leaf ho hm
        have h3 : ps = [] := h3
        rw [h3]
        exact fun q hq => by cases hq
      · split at h
        · cases h
        · rename_i xs k hk
          exact kids_nm (fun left p t n hf h => write_nm d left p t n hf h) ps left k xs (fun q hq => hf.kid hq) hk
theorem writeTop_ok {p : PT} {t : B} (h : writeTop p = .ok t) : ∃ n, writePt 4 40 p = .ok (t, n) ∧ t.length ≤ 20000 := by
  unfold writeTop at h
  split at h
  · cases h
  · rename_i s n hw
    split at h
    · cases h
    · cases h
      exact ⟨n, hw, by omega⟩
theorem readTop_ok {s : B} {p : PT} (h : readTop s = .ok p) : ∃ n, readPt 4 40 s = .ok (p, n) ∧ s.length ≤ 20000 := by
  unfold readTop at h
  split at h
  · cases h
  · split at h
    · rename_i q n hr
      cases h
      exact ⟨n, hr, by omega⟩
    · cases h
theorem back_one {p : PT} {t : B} (hf : Fit p) (h : writeTop p = .ok t) : t.length ≤ 20000 ∧ ∃ r, readTop t = .ok r ∧ writeTop r = .ok t ∧ likesB p r = true ∧ NmD 4 p ∧ NmD 4 r ∧ Fit r := by
  obtain ⟨n, hw, ht⟩ := writeTop_ok h
  obtain ⟨r, h1, h2, h3⟩ := write_back 4 40 p t n hw ht
  have hfr := read_fit h1 ht
  refine ⟨ht, r, ?_, ?_, h2, write_nm 4 40 p t n hf hw, write_nm 4 40 r t n hfr h3, hfr⟩
  · unfold readTop
    rw [if_neg (by omega), h1]
  · unfold writeTop
    rw [h3]
    simp only
    rw [if_neg (by omega)]
theorem read_tell {s : B} {q : PT} (h : readTop s = .ok q) : Fit q ∧ ((∃ t, writeTop q = .ok t) ∨ writeTop q = .err 4) := by
  obtain ⟨n, hr, hs⟩ := readTop_ok h
  obtain ⟨t, ht⟩ := read_writes 4 40 s q n hr
  refine ⟨read_fit hr hs, ?_⟩
  unfold writeTop
  rw [ht]
  simp only
  by_cases hl : 20000 < t.length
  · exact .inr (if_pos hl)
  · exact .inl ⟨t, if_neg hl⟩
theorem all8B {p : UInt8 → Bool} (h : (List.range 256).all (fun n => p (UInt8.ofNat n)) = true) (c : UInt8) : p c = true := by
  have := List.all_eq_true.1 h c.toNat (List.mem_range.2 c.toNat_lt)
  simpa using this
theorem name_ascii {n : B} (h : nameB n = true) : ∀ c ∈ n, c.toNat < 128 := fun c hc => by
  unfold nameB at h
  rw [Bool.and_eq_true] at h
  have h1 := List.all_eq_true.1 h.1 c hc
  have h2 := all8B (p := fun c => !nameC c || decide (c.toNat < 128)) (by decide +kernel) c
  simp only [h1, Bool.not_true, Bool.false_or] at h2
  exact of_decide_eq_true h2
theorem toLower_low (s : B) : Lib.toLowerA s = lowB s := by
  unfold Lib.toLowerA lowB
  exact List.map_congr_left fun c _ => eq_of_beq (all8B (p := fun c => Lib.lowerB c == lowC c) (by decide +kernel) c)
theorem likes_inv {h h' : Fs} {b b' : B} {m m' : Bool} {ps ps' : List PT} (hl : likesB (.mk h b m ps) (.mk h' b' m' ps') = true) : b = b' ∧ m = m' ∧ ps.length = ps'.length ∧ oursF m true h = oursF m true h' ∧ likesL ps ps' = true := by
  rw [likesB, Bool.and_eq_true] at hl
  obtain ⟨h1, h2, h3, h4⟩ := of_decide_eq_true hl.1
  exact ⟨h1, h2, h3, h4, hl.2⟩
theorem likesL_at : ∀ {ps qs : List PT} (i : Nat) (h : i < ps.length) (h' : i < qs.length), likesL ps qs = true → likesB ps[i] qs[i] = true
  | p :: ps, q :: qs, i, h, h', hl => by
    rw [likesL, Bool.and_eq_true] at hl
    cases i with
    | zero => exact hl.1
    | succ i => exact likesL_at i (by simpa using h) (by simpa using h') hl.2
def oursSt (m : Bool) : Fs → Fs × Bool → Fs × Bool
  | [], s => s
  | f :: r, (out, fi) => oursSt m r (if lowB f.1 = ceB then (out, fi) else if lowB f.1 = ctB then (out ++ [(f.1, if (fi && m) = true then [] else f.2)], false) else (out ++ [f], fi))
theorem oursSt_eq (m : Bool) : ∀ (l out : Fs) (fi : Bool), (oursSt m l (out, fi)).1 = out ++ oursF m fi l
  | [], out, fi => by simp [oursSt, oursF]
  | f :: r, out, fi => by
    rw [oursSt, oursF]
    by_cases h1 : lowB f.1 = ceB
    · rw [if_pos h1, if_pos h1, oursSt_eq m r]
    · rw [if_neg h1, if_neg h1]
      by_cases h2 : lowB f.1 = ctB
      · rw [if_pos h2, if_pos h2, oursSt_eq m r]; simp
      · rw [if_neg h2, if_neg h2, oursSt_eq m r]; simp
theorem oursSt_take {m : Bool} : ∀ {l : Fs} {i : Nat} {f : B × B} (s : Fs × Bool), l[i]? = some f → oursSt m (l.take (i + 1)) s = oursSt m [f] (oursSt m (l.take i) s)
  | g :: l, 0, f, s, h => by
    have : g = f := by simpa using h
    subst this
    obtain ⟨o, fi⟩ := s
    simp [oursSt]
  | g :: l, i + 1, f, (o, fi), h => by
    rw [List.take_succ_cons, List.take_succ_cons, oursSt, oursSt]
    exact oursSt_take _ (by simpa using h)
theorem oursSt_len (m : Bool) : ∀ (l out : Fs) (fi : Bool), (oursSt m l (out, fi)).1.length ≤ out.length + l.length
  | [], out, fi => by simp [oursSt]
  | f :: r, out, fi => by
    rw [oursSt]
    split
    · have := oursSt_len m r out fi
      rw [List.length_cons]; omega
    · split
      · have := oursSt_len m r (out ++ [(f.1, if (fi && m) = true then [] else f.2)]) false
        rw [List.length_append] at this
        simp only [List.length_cons, List.length_nil] at this ⊢; omega
      · have := oursSt_len m r (out ++ [f]) fi
        rw [List.length_append] at this
        simp only [List.length_cons, List.length_nil] at this ⊢; omega
end Go.Proofs.YtignjjnflcpiiaaGreatDoor
