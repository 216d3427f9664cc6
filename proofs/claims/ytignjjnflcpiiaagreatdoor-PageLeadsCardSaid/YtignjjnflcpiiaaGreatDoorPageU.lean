/- How long a page with other values may be; what the constant page of the laws links to. -/
import Derived.Test.YtignjjnflcpiiaaGreatDoorPageH
set_option linter.unusedVariables false
set_option linter.unusedSimpArgs false
set_option maxHeartbeats 1000000
namespace Go.Proofs.YtignjjnflcpiiaaGreatDoor
open Go.RowKit
set_option maxRecDepth 100000

theorem unescB_len : ∀ (k : Nat) (s : B), s.length ≤ k → (unescB s).length ≤ s.length
  | 0, s, h => by
    have : s = [] := List.eq_nil_of_length_eq_zero (by omega)
    subst this
    simp [unescB]
  | k + 1, [], _ => by simp [unescB]
  | k + 1, c :: r, h => by
    simp only [List.length_cons] at h
    cases hw : wordAt (c :: r) with
    | none =>
      rw [unescB_one hw]
      have := unescB_len k r (by omega)
      simp only [List.length_cons]; omega
    | some x =>
      obtain ⟨d, n⟩ := x
      rw [unescB_word hw]
      have hp := wordAt_pos hw
      simp only [List.length_cons] at hp
      have := unescB_len k ((c :: r).drop n) (by simp only [List.length_drop, List.length_cons]; omega)
      simp only [List.length_drop, List.length_cons] at this ⊢; omega
def wsum : List B → Nat
  | [] => 0
  | v :: vs => 6 * v.length + 2 + wsum vs
theorem wrV_len (s : B) (k : Nat) (v : B) : (wrV s k v).length ≤ 6 * v.length + 2 := by
  have := escB_len v
  unfold wrV
  split
  · omega
  · simp only [List.length_cons, List.length_append, List.length_nil]; omega
theorem repGo_len (s : B) : ∀ (L : List Lk) (vs : List B) (a : Nat), LkOk s.length a L → (repGo s a L vs).length + a ≤ s.length + wsum vs
  | [], vs, a, h => by
    have h : a ≤ s.length := h
    simp only [repGo, List.length_drop]; omega
  | x :: L, [], a, h => by
    obtain ⟨h1, h2, h3, h4⟩ := h
    simp only [repGo, List.length_drop]; omega
  | x :: L, v :: vs, a, h => by
    obtain ⟨h1, h2, h3, h4⟩ := h
    have ih := repGo_len s L vs _ h4
    have hw := wrV_len s x.1 v
    simp only [repGo, wsum, List.length_append, List.length_take, List.length_drop]; omega
theorem wsum_le {n : Nat} : ∀ {vs : List B}, (∀ v ∈ vs, v.length ≤ n) → wsum vs ≤ vs.length * (6 * n + 2)
  | [], _ => by simp [wsum]
  | v :: vs, h => by
    have h1 := h v List.mem_cons_self
    have ih := wsum_le (vs := vs) (fun u hu => h u (List.mem_cons_of_mem _ hu))
    rw [wsum, List.length_cons, Nat.add_mul]; omega
/-- each value is no longer than what it was read from -/
def LkV (l : List Lk) : Prop := ∀ x ∈ l, x.2.2.length ≤ x.2.1
theorem linksOf_v : ∀ (l : List Pc) (k : Nat), LkV (linksOf k l)
  | [], _, x, hx => by cases hx
  | y :: l, k, x, hx => by
    rcases List.mem_cons.1 hx with rfl | hx
    · exact unescB_len _ _ (Nat.le_refl _)
    · exact linksOf_v l _ x hx
theorem linksF_v (s : B) : LkV (linksF s.length s) := by
  obtain ⟨l, t, h1, h2, h3⟩ := linksF_pieces s
  rw [h3]; exact linksOf_v l 0
theorem own_sum (n : Nat) : ∀ (L : List Lk) (a : Nat), LkOk n a L → LkV L → wsum (L.map (·.2.2)) + 6 * a ≤ 6 * n + 2 * L.length
  | [], a, h, _ => by
    have h : a ≤ n := h
    simp only [List.map_nil, wsum, List.length_nil]; omega
  | x :: L, a, h, hv => by
    obtain ⟨h1, h2, h3, h4⟩ := h
    have ih := own_sum n L _ h4 (fun y hy => hv y (List.mem_cons_of_mem _ hy))
    have hx := hv x List.mem_cons_self
    simp only [List.map_cons, wsum, List.length_cons]; omega
theorem own_le (s : B) : ∀ v ∈ (linksF s.length s).map (·.2.2), v.length ≤ s.length := by
  intro v hv
  obtain ⟨x, hx, rfl⟩ := List.mem_map.1 hv
  have h1 := linksF_v s x hx
  have h2 : ∀ (L : List Lk) (a : Nat), LkOk s.length a L → ∀ x ∈ L, x.2.1 ≤ s.length := by
    intro L
    induction L with
    | nil => intro _ _ x hx; cases hx
    | cons y L ih =>
      rintro a ⟨h1, h2, h3, h4⟩ x hx
      rcases List.mem_cons.1 hx with rfl | hx
      · omega
      · exact ih _ h4 x hx
  have := h2 _ _ (linksF_ok s) x hx
  omega
theorem own_len (s : B) (hs : s.length ≤ 1500) : (repGo s 0 (linksF s.length s) ((linksF s.length s).map (·.2.2))).length ≤ 1000000 := by
  have h1 := repGo_len s (linksF s.length s) ((linksF s.length s).map (·.2.2)) 0 (linksF_ok s)
  have h2 := own_sum s.length (linksF s.length s) 0 (linksF_ok s) (linksF_v s)
  have h3 := linksF_len s
  omega
theorem rep_len (s : B) (vs : List B) (hs : s.length ≤ 1500) (hv : vs.length ≤ 1500) (h : ∀ v ∈ vs, v.length ≤ 1500) : (repGo s 0 (linksF s.length s) vs).length ≤ 100000000 := by
  have h1 := repGo_len s (linksF s.length s) vs 0 (linksF_ok s)
  have h2 := wsum_le h
  have h3 : vs.length * (6 * 1500 + 2) ≤ 1500 * (6 * 1500 + 2) := Nat.mul_le_mul_right _ hv
  omega
/-- the page of the laws: <a href="x&amp;y"><img src=z> -/
def linkS : B := [60, 97, 32, 104, 114, 101, 102, 61, 34, 120, 38, 97, 109, 112, 59, 121, 34, 62, 60, 105, 109, 103, 32, 115, 114, 99, 61, 122, 62]
theorem unx : unescB [120, 38, 97, 109, 112, 59, 121] = [120, 38, 121] := by
  rw [unescB_one (by decide +kernel), unescB_word (d := 38) (n := 5) (by decide +kernel)]
  show _ :: _ :: unescB [121] = _
  rw [unescB_one (by decide +kernel), unescB_nil]
theorem unz : unescB [122] = [122] := by
  rw [unescB_one (by decide +kernel), unescB_nil]
/-- the links with what they were read from -/
def scanR (n : Nat) : PA → B → List Lk
  | _, [] => []
  | a, c :: r => (match pe a c with
    | some v => [(n - (c :: r).length - v.length, v.length, v)]
    | none => []) ++ scanR n (pd a c) r
theorem scan_R (n : Nat) : ∀ (r : B) (a : PA), scan n a r = (scanR n a r).map fun x => (x.1, x.2.1, unescB x.2.2)
  | [], a => by simp [scan, scanR]
  | c :: r, a => by
    rw [scan, scanR, List.map_append, scan_R n r]
    cases pe a c <;> rfl
theorem scanR_linkS : scanR 29 .text linkS = [(9, 7, [120, 38, 97, 109, 112, 59, 121]), (27, 1, [122])] := by decide +kernel
theorem linksF_linkS : linksF linkS.length linkS = [(9, 7, [120, 38, 121]), (27, 1, [122])] := by
  rw [← scan_links _ _ (Nat.le_refl _), show linkS.length = 29 from rfl, scan_R, scanR_linkS]
  simp only [List.map_cons, List.map_nil, unx, unz]
end Go.Proofs.YtignjjnflcpiiaaGreatDoor
