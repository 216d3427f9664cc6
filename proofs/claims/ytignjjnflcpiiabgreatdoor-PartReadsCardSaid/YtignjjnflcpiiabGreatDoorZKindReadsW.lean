import Derived.Test.YtignjjnflcpiiabGreatDoorZKindF
set_option linter.unusedVariables false
set_option linter.unusedSimpArgs false
set_option maxHeartbeats 1000000
namespace Go.Proofs.YtignjjnflcpiiabGreatDoor
open Go.RowKit
attribute [local irreducible] Tri Steps Qd Wr Weak CPure CEff
set_option maxRecDepth 100000
theorem parsGo_fits {K : Nat} : ∀ (m : Nat) (s : B), s.length ≤ m → ∀ (out l : Fs), out.length + s.length ≤ K → (∀ f ∈ out, f.1.length ≤ K ∧ f.2.length ≤ K) → parsGo tokC blk lowC out s = some l → l.length ≤ K ∧ ∀ f ∈ l, f.1.length ≤ K ∧ f.2.length ≤ K
  | m, [], _, out, l, h1, h2, h => by
    rw [parsGo_nil] at h
    cases h
    exact ⟨by simpa using h1, h2⟩
  | 0, c :: r, hm, _, _, _, _, _ => absurd hm (by simp)
  | m + 1, c :: r, hm, out, l, h1, h2, h => by
    cases hp : parR tokC blk r with
    | none => rw [parsGo_none tokC blk lowC hp] at h; cases h
    | some q =>
      obtain ⟨⟨n, v⟩, r'⟩ := q
      rw [parsGo_some tokC blk lowC hp] at h
      obtain ⟨a1, a2, a3, _⟩ := parR_len hp
      simp only [List.length_cons] at hm h1
      refine parsGo_fits m r' (by omega) _ l (by simp only [List.length_append, List.length_cons, List.length_nil]; omega) (fun f hf => ?_) h
      rcases List.mem_append.1 hf with hf | hf
      · exact h2 f hf
      · rw [List.mem_singleton.1 hf]
        exact ⟨by simp only [List.length_map]; omega, by simp only; omega⟩
theorem readK_small {s m : B} {l : Fs} (h : readK tokC blk lowC s = some (m, l)) (hs : s.length ≤ 1000000) : Small l ∧ m.length ≤ s.length := by
  unfold readK at h
  split at h
  · split at h
    · cases h
    · rename_i l' hl
      cases h
      have hr := restOf_len s
      obtain ⟨h1, h2⟩ := parsGo_fits (K := s.length) _ _ (Nat.le_refl _) [] l (by simpa using hr) (fun f hf => by cases hf) hl
      refine ⟨⟨by omega, fun f hf => ⟨Nat.le_trans (h2 f hf).1 hs, Nat.le_trans (h2 f hf).2 hs⟩⟩, ?_⟩
      unfold mainOf
      rw [List.length_map]
      exact Nat.le_trans (trimB_len _) (List.takeWhile_sublist _).length_le
  · cases h
def kL : Option (B × Fs) → Fs
  | some (_, l) => l
  | none => []
def kM : Option (B × Fs) → B
  | some (m, _) => m
  | none => []
def kE : Option (B × Fs) → Int
  | some _ => 0
  | none => 3
def kErr : Option (B × Fs) → AV
  | some _ => .nili
  | none => .iface 26 (.int .i64 3)
theorem kread_c' (s : B) (hs : s.length ≤ 1000000) : CPure gx 46 [.str s] (.tup [.str (kM (readK tokC blk lowC s)), .ro true 2 (fieldRows (kL (readK tokC blk lowC s))), kErr (readK tokC blk lowC s)]) := by
  refine (kread_c s hs).up ?_
  cases readK tokC blk lowC s with
  | some p => exact .refl _
  | none => exact .tup (.cons (.refl _) (.cons (.nil true 2) (.cons (.refl _) .nil)))
theorem rkread_c' (s : B) (hs : s.length ≤ 1000000) : CPure gx 32 [.str s] (.tup [.str (kM (readK tokC blk lowC s)), .ro true 2 (fieldRows (kL (readK tokC blk lowC s))), .int .i64 (kE (readK tokC blk lowC s))]) := by
  refine (rkread_c s hs).up ?_
  cases readK tokC blk lowC s with
  | some p => exact .refl _
  | none => exact .tup (.cons (.refl _) (.cons (.nil true 2) (.cons (.refl _) .nil)))
theorem kL_small (s : B) (hs : s.length ≤ 1000000) : Small (kL (readK tokC blk lowC s)) := by
  cases h : readK tokC blk lowC s with
  | none => exact ⟨by simp [kL], fun f hf => by cases hf⟩
  | some p => exact (readK_small (m := p.1) (l := p.2) h hs).1
end Go.Proofs.YtignjjnflcpiiabGreatDoor
