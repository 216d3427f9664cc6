import Derived.Test.YtignjjnflcpiiabGreatDoorZHeadG
set_option linter.unusedVariables false
set_option linter.unusedSimpArgs false
set_option maxHeartbeats 1000000
namespace Go.Proofs.YtignjjnflcpiiabGreatDoor
def HRes.fs : HRes → Fs | .ok l _ => l | .bad _ => []
def HRes.rest : HRes → B | .ok _ r => r | .bad _ => []
def HRes.e : HRes → Int | .ok _ _ => 0 | .bad _ => 3
def HRes.p : HRes → Int | .ok _ _ => -1 | .bad n => n
def CRes.fs : CRes → Fs | .ok l => l | .bad _ => []
def CRes.e : CRes → Int | .ok _ => 0 | .bad _ => 1
def CRes.p : CRes → Int | .ok _ => -1 | .bad n => n
def Fits (K : Nat) (l : Fs) : Prop := l.length ≤ K ∧ ∀ f ∈ l, f.1.length ≤ K ∧ f.2.length ≤ K
theorem Fits.small {K : Nat} {l : Fs} (h : Fits K l) (hK : K ≤ 1000000) : Small l := ⟨Nat.le_trans h.1 hK, fun f hf => ⟨Nat.le_trans (h.2 f hf).1 hK, Nat.le_trans (h.2 f hf).2 hK⟩⟩
theorem readGo_fits {K : Nat} : ∀ (m : Nat) (out : Fs) (n : Nat) (s : B), s.length ≤ m → out.length + s.length ≤ K → (∀ f ∈ out, f.1.length ≤ K ∧ f.2.length + s.length ≤ K) → Fits K (readGo out n s).fs ∧ (readGo out n s).rest.length ≤ K := by
  intro m
  induction m with
  | zero =>
    intro out n s hm ho hf
    have : s = [] := List.eq_nil_of_length_eq_zero (by omega)
    subst this
    rw [readGo_nil]
    exact ⟨⟨by show out.length ≤ K; simpa using ho, fun f hfm => ⟨(hf f hfm).1, by have := (hf f hfm).2; omega⟩⟩, Nat.zero_le _⟩
  | succ m ih =>
    intro out n s hm ho hf
    by_cases hs : s = []
    · subst hs
      rw [readGo_nil]
      exact ⟨⟨by show out.length ≤ K; simpa using ho, fun f hfm => ⟨(hf f hfm).1, by have := (hf f hfm).2; omega⟩⟩, Nat.zero_le _⟩
    · have hsum := cut_sum s [13, 10]
      have hlt := cut_lt (sep := [13, 10]) hs (by simp)
      by_cases h1 : (Lib.cut s [13, 10]).1 = []
      · rw [readGo_end hs h1]
        exact ⟨⟨by show out.length ≤ K; omega, fun f hfm => ⟨(hf f hfm).1, by have := (hf f hfm).2; omega⟩⟩, by show (Lib.cut s [13, 10]).2.1.length ≤ K; omega⟩
      · cases h2 : readStep out (Lib.cut s [13, 10]).1 with
        | none =>
          rw [readGo_bad hs h1 h2]
          exact ⟨⟨Nat.zero_le _, fun f hf => by cases hf⟩, Nat.zero_le _⟩
        | some o =>
          rw [readGo_go hs h1 h2]
          have hst : o.length ≤ out.length + 1 ∧ ∀ f ∈ o, f.1.length ≤ K ∧ f.2.length + (Lib.cut s [13, 10]).2.1.length ≤ K := by
            unfold readStep at h2
            split at h2
            · split at h2
              · cases h2
              · cases h2
                refine ⟨by simp, fun f hfm => ?_⟩
                rcases List.mem_or_eq_of_mem_set hfm with h | h
                · have := hf f h; omega
                · subst h
                  have := hf _ (lastF_mem ‹_›)
                  simp only [List.length_append]; omega
            · split at h2
              · cases h2
                refine ⟨by simp, fun f hfm => ?_⟩
                rcases List.mem_append.1 hfm with h | h
                · have := hf f h; omega
                · simp only [List.mem_singleton] at h
                  subst h
                  have := cut_sum (Lib.cut s [13, 10]).1 [58]
                  simp only
                  omega
              · cases h2
          exact ih o (n + 1) _ (by omega) (by have := List.length_pos_iff.2 h1; omega) hst.2
theorem readH_fits (s : B) : Fits s.length (readH s).fs ∧ (readH s).rest.length ≤ s.length := readGo_fits s.length [] 0 s (Nat.le_refl _) (by simp) (fun f hf => by cases hf)
theorem cleanGo_fits {K : Nat} : ∀ (l : Fs) (n : Nat) (out : Fs), out.length + l.length ≤ K → (∀ f ∈ l, f.1.length ≤ K ∧ f.2.length ≤ K) → (∀ f ∈ out, f.1.length ≤ K ∧ f.2.length ≤ K) → Fits K (cleanGo n out l).fs
  | [], n, out, h, hl, ho => ⟨by show out.length ≤ K; simpa using h, ho⟩
  | f :: r, n, out, h, hl, ho => by
    rw [cleanGo]
    cases valueB (trimB f.2) with
    | false => exact ⟨Nat.zero_le _, fun f hf => by cases hf⟩
    | true =>
      refine cleanGo_fits r (n + 1) _ (by simp at h ⊢; omega) (fun g hg => hl g (List.mem_cons_of_mem _ hg)) (fun g hg => ?_)
      rcases List.mem_append.1 hg with h' | h'
      · exact ho g h'
      · simp only [List.mem_singleton] at h'
        subst h'
        exact ⟨(hl f (List.mem_cons_self)).1, Nat.le_trans (trimB_len _) (hl f (List.mem_cons_self)).2⟩
theorem cleanF_fits {K : Nat} {l : Fs} (h : Fits K l) : Fits K (cleanF l).fs := cleanGo_fits l 0 [] (by simpa using h.1) h.2 (fun f hf => by cases hf)
theorem readH_small {s rest : B} {l : Fs} (h : readH s = .ok l rest) (hs : s.length ≤ 1000000) : Small l ∧ rest.length ≤ s.length := by
  have := readH_fits s
  rw [h] at this
  exact ⟨this.1.small hs, this.2⟩
theorem cleanF_small {l o : Fs} (h : cleanF l = .ok o) (hl : Small l) : Small o := by
  have hf : Fits 1000000 l := ⟨hl.len, hl.one⟩
  have := cleanF_fits hf
  rw [h] at this
  exact Fits.small this (Nat.le_refl _)
end Go.Proofs.YtignjjnflcpiiabGreatDoor
