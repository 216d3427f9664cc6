/- A page in pieces: what stands ahead of each value, the value, its closing quote; a page with other values has the same pieces but these. -/
import Derived.Test.YtignjjnflcpiiaaGreatDoorPageM
set_option linter.unusedVariables false
set_option linter.unusedSimpArgs false
set_option maxHeartbeats 1000000
namespace Go.Proofs.YtignjjnflcpiiaaGreatDoor

def prun (a : PA) (x : B) : PA := x.foldl pd a
/-- no link ends here -/
def still : PA → B → Bool
  | _, [] => true
  | a, c :: r => (pe a c).isNone && still (pd a c) r
theorem prun_app (a : PA) (x y : B) : prun a (x ++ y) = prun (prun a x) y := List.foldl_append
theorem still_app : ∀ (x : B) (a : PA) (y : B), still a (x ++ y) = (still a x && still (prun a x) y)
  | [], a, y => rfl
  | c :: x, a, y => by
    rw [List.cons_append, still, still_app x, still, Bool.and_assoc]; rfl
theorem scan_still {n : Nat} : ∀ {x : B} {a : PA} (r : B), still a x = true → scan n a (x ++ r) = scan n (prun a x) r
  | [], a, r, _ => rfl
  | c :: x, a, r, h => by
    rw [still, Bool.and_eq_true] at h
    have h1 : pe a c = none := by simpa using h.1
    rw [List.cons_append, scan_step h1]
    exact scan_still (x := x) (a := pd a c) r h.2
/-- a piece: what stands ahead, the value, its closing quote, if it has one -/
structure Pc where
  p : B
  v : B
  c : B
def pageOf : List Pc → B → B
  | [], t => t
  | x :: l, t => x.p ++ (x.v ++ (x.c ++ pageOf l t))
def linksOf : Nat → List Pc → List Lk
  | _, [] => []
  | n, x :: l => (n + x.p.length, x.v.length, unescB x.v) :: linksOf (n + x.p.length + x.v.length + x.c.length) l
/-- with other values -/
def turn : List Pc → List B → List Pc
  | x :: l, v :: vs => (match x.c with
    | [] => ⟨x.p ++ [34], escB v, [34]⟩
    | _ => ⟨x.p, escB v, x.c⟩) :: turn l vs
  | _, _ => []
inductive Pg : PA → List Pc → B → Prop
  | nil (a : PA) (r : B) (h : ∀ n, scan n a r = []) : Pg a [] r
  | quo (a : PA) (p m nm v : B) (q : UInt8) (l : List Pc) (t : B) (h1 : still a p = true) (h2 : prun a p = .qu m nm q []) (h3 : leadB nm = true) (hq : q = 34 ∨ q = 39) (hv : ∀ c ∈ v, c ≠ q) (hp : p.getLast? = some q) (h : Pg (.atr m) l t) : Pg a (⟨p, v, [q]⟩ :: l) t
  | unq (a : PA) (p m nm v : B) (d : UInt8) (r : B) (l : List Pc) (t : B) (h1 : still a p = true) (h2 : prun a p = .eq m nm) (h3 : leadB nm = true) (hv : ∀ c ∈ v, uvB c = false) (hv0 : ∀ c t, v = c :: t → c ≠ 34 ∧ c ≠ 39) (hd : uvB d = true) (h62 : v = [] → d = 62) (hr : pageOf l t = d :: r)
      (hp : ∃ c, p.getLast? = some c ∧ c ≠ 34 ∧ c ≠ 39) (h : Pg (.atr m) l t) : Pg a (⟨p, v, []⟩ :: l) t
theorem prun_qu (m nm : B) (q : UInt8) : ∀ (v w : B), (∀ c ∈ v, c ≠ q) → still (.qu m nm q w) v = true ∧ prun (.qu m nm q w) v = .qu m nm q (w ++ v)
  | [], w, _ => ⟨rfl, by rw [List.append_nil]; rfl⟩
  | c :: v, w, h => by
    have hc := h c List.mem_cons_self
    have ih := prun_qu m nm q v (w ++ [c]) (fun d hd => h d (List.mem_cons_of_mem _ hd))
    have e1 : pe (.qu m nm q w) c = none := by simp only [pe]; rw [if_neg (fun h => hc h.1)]
    have e2 : pd (.qu m nm q w) c = .qu m nm q (w ++ [c]) := by simp only [pd]; rw [if_neg hc]
    constructor
    · rw [still, e1, e2, ih.1]; rfl
    · show prun (pd (.qu m nm q w) c) v = _
      rw [e2, ih.2, List.append_assoc]; rfl
theorem prun_un (m nm : B) : ∀ (v w : B), (∀ c ∈ v, uvB c = false) → still (.un m nm w) v = true ∧ prun (.un m nm w) v = .un m nm (w ++ v)
  | [], w, _ => ⟨rfl, by rw [List.append_nil]; rfl⟩
  | c :: v, w, h => by
    have hc := h c List.mem_cons_self
    have ih := prun_un m nm v (w ++ [c]) (fun d hd => h d (List.mem_cons_of_mem _ hd))
    have e1 : pe (.un m nm w) c = none := by simp only [pe]; rw [if_neg (fun h => by rw [hc] at h; cases h.1)]
    have e2 : pd (.un m nm w) c = .un m nm (w ++ [c]) := by simp only [pd]; rw [if_neg (by rw [hc]; exact Bool.false_ne_true)]
    constructor
    · rw [still, e1, e2, ih.1]; rfl
    · show prun (pd (.un m nm w) c) v = _
      rw [e2, ih.2, List.append_assoc]; rfl
/-- the links of a page in pieces -/
theorem scan_pg {a : PA} {l : List Pc} {t : B} (h : Pg a l t) : ∀ k : Nat, scan (k + (pageOf l t).length) a (pageOf l t) = linksOf k l := by
  induction h with
  | nil a r h => exact fun k => h _
  | quo a p m nm v q l t h1 h2 h3 hq hv hp h ih =>
    intro k
    have ih := ih (k + p.length + v.length + 1)
    have hq2 := prun_qu m nm q v [] hv
    simp only [pageOf, linksOf]
    rw [scan_still _ h1, h2, scan_still _ hq2.1, hq2.2, List.nil_append, List.singleton_append, scan_emit (v := v) (by simp [pe, h3])]
    have hl : k + (p ++ (v ++ q :: pageOf l t)).length = k + p.length + v.length + 1 + (pageOf l t).length := by
      simp only [List.length_append, List.length_cons]; omega
    rw [hl]
    have e : pd (.qu m nm q v) q = .atr m := by simp [pd]
    rw [e, ih]
    simp only [List.length_cons, List.length_nil]
    congr 2
    omega
  | unq a p m nm v d r l t h1 h2 h3 hv hv0 hd h62 hr hp h ih =>
    intro k
    have ih := ih (k + p.length + v.length + 0)
    simp only [pageOf, linksOf]
    rw [scan_still _ h1, h2, List.nil_append]
    have hl : k + (p ++ (v ++ pageOf l t)).length = k + p.length + v.length + 0 + (pageOf l t).length := by
      simp only [List.length_append]; omega
    rw [hl, List.length_nil, ← ih, hr]
    cases v with
    | nil =>
      have hd62 := h62 rfl
      subst hd62
      rw [List.nil_append, scan_emit (v := []) (by simp [pe, h3]), scan_step (a := .atr m) rfl]
      congr 2
      simp only [List.length_cons, List.length_nil]; omega
    | cons c0 v' =>
      have hc0 := hv c0 List.mem_cons_self
      obtain ⟨q1, q2⟩ := hv0 c0 v' rfl
      have hg : gapB c0 = false := by
        cases hg : gapB c0 with
        | false => rfl
        | true => rw [uvB, hg] at hc0; cases hc0
      have h62' : c0 ≠ 62 := by rintro rfl; revert hc0; decide
      have hu := prun_un m nm v' [c0] (fun c hc => hv c (List.mem_cons_of_mem _ hc))
      rw [List.cons_append, scan_step (by simp only [pe]; rw [if_neg (fun h => h62' h.1)])]
      have e : pd (.eq m nm) c0 = .un m nm [c0] := by
        simp only [pd]
        rw [if_neg (by rw [hg]; exact Bool.false_ne_true), if_neg (fun e => e.elim q1 q2), if_neg h62']
      rw [e, scan_still _ hu.1, hu.2, scan_emit (v := c0 :: v') (by simp [pe, hd, h3]), scan_step (a := .atr m) rfl]
      have e2 : pd (.un m nm ([c0] ++ v')) d = pd (.atr m) d := by simp only [pd]; rw [if_pos hd]
      rw [e2]
      congr 2
      simp only [List.length_cons]; omega
theorem turn_app_len : ∀ (l : List Pc) (vs : List B), vs.length = l.length → (turn l vs).length = l.length
  | [], [], _ => rfl
  | x :: l, v :: vs, h => by
    simp only [turn, List.length_cons]
    rw [turn_app_len l vs (by simpa using h)]
/-- a page with other values has the pieces with the other values -/
theorem pg_turn {a : PA} {l : List Pc} {t : B} (h : Pg a l t) : ∀ vs : List B, vs.length = l.length → Pg a (turn l vs) t := by
  induction h with
  | nil a r h =>
    intro vs hvs
    have : vs = [] := List.eq_nil_of_length_eq_zero (by simpa using hvs)
    subst this
    exact .nil a r h
  | quo a p m nm v q l t h1 h2 h3 hq hv hp h ih =>
    intro vs hvs
    cases vs with
    | nil => cases hvs
    | cons v' vs =>
      simp only [turn]
      refine .quo a p m nm (escB v') q _ t h1 h2 h3 hq (fun c hc => ?_) hp (ih vs (by simpa using hvs))
      have := esc_no hc
      rcases hq with rfl | rfl
      · exact this.1
      · exact this.2.1
  | unq a p m nm v d r l t h1 h2 h3 hv hv0 hd h62 hr hp h ih =>
    intro vs hvs
    cases vs with
    | nil => cases hvs
    | cons v' vs =>
      simp only [turn]
      refine .quo a (p ++ [34]) m nm (escB v') 34 _ t ?_ ?_ h3 (.inl rfl) (fun c hc => (esc_no hc).1) (by simp) (ih vs (by simpa using hvs))
      · rw [still_app, h1, h2]; rfl
      · rw [prun_app, h2]; rfl
/-- where the first link ends -/
theorem first_end {n : Nat} : ∀ (r : B) (a : PA), (∀ n, scan n a r = []) ∨ ∃ x d r2 v, r = x ++ d :: r2 ∧ still a x = true ∧ pe (prun a x) d = some v
  | [], a => .inl fun n => scan_nil a
  | c :: r, a => by
    cases he : pe a c with
    | some v => exact .inr ⟨[], c, r, v, rfl, rfl, he⟩
    | none =>
      rcases first_end (n := n) r (pd a c) with h | ⟨x, d, r2, v, h1, h2, h3⟩
      · exact .inl fun n => by rw [scan_step he]; exact h n
      · refine .inr ⟨c :: x, d, r2, v, by rw [h1]; rfl, ?_, h3⟩
        rw [still, he, h2]; rfl
/-- how one came into a value -/
def fresh : PA → Prop
  | .qu .. => False
  | .un .. => False
  | .eq .. => False
  | _ => True
theorem snoc {P : B → Prop} (h0 : P []) (h1 : ∀ x c, P x → P (x ++ [c])) : ∀ x, P x := fun x => by
  have : ∀ (k : Nat) (x : B), x.length = k → P x := by
    intro k
    induction k with
    | zero => intro x hx; rw [List.eq_nil_of_length_eq_zero hx]; exact h0
    | succ k ih =>
      intro x hx
      have hne : x ≠ [] := by rintro rfl; cases hx
      rw [← List.dropLast_concat_getLast hne]
      exact h1 _ _ (ih _ (by rw [List.length_dropLast]; omega))
  exact this _ x rfl
theorem back (a : PA) (ha : fresh a) : ∀ x : B, still a x = true →
    (∀ m nm q v, prun a x = .qu m nm q v → ∃ p, x = p ++ v ∧ still a p = true ∧ prun a p = .qu m nm q [] ∧ (∀ c ∈ v, c ≠ q) ∧ (q = 34 ∨ q = 39) ∧ p.getLast? = some q) ∧
    (∀ m nm v, prun a x = .un m nm v → ∃ p, x = p ++ v ∧ still a p = true ∧ prun a p = .eq m nm ∧ (∀ c ∈ v, uvB c = false) ∧ (∀ c t, v = c :: t → c ≠ 34 ∧ c ≠ 39) ∧ v ≠ [] ∧ ∃ c, p.getLast? = some c ∧ c ≠ 34 ∧ c ≠ 39) ∧
    (∀ m nm, prun a x = .eq m nm → ∃ c, x.getLast? = some c ∧ c ≠ 34 ∧ c ≠ 39) := by
  refine snoc ?_ ?_
  · intro _
    refine ⟨fun m nm q v h => ?_, fun m nm v h => ?_, fun m nm h => ?_⟩ <;>
      (rw [show prun a [] = a from rfl] at h; rw [h] at ha; exact ha.elim)
  · intro x c ih hs
    rw [still_app, Bool.and_eq_true] at hs
    obtain ⟨ih1, ih2, ih3⟩ := ih hs.1
    have hpc : still (prun a x) [c] = true := hs.2
    have hrun : prun a (x ++ [c]) = pd (prun a x) c := by rw [prun_app]; rfl
    have hx := hs.1
    have hp2 : pe (prun a x) c = none := by
      rw [still, Bool.and_eq_true] at hpc
      simpa using hpc.1
    rw [hrun]
    have hsx : still a (x ++ [c]) = true := by rw [still_app, hx, hpc]; rfl
    generalize hb : prun a x = b at *
    cases b with
    | qu m0 nm0 q0 v0 =>
      obtain ⟨p, e1, e2, e3, e4, e5, e6⟩ := ih1 m0 nm0 q0 v0 rfl
      simp only [pd]
      by_cases hc : c = q0
      · rw [if_pos hc]
        exact ⟨fun m nm q v h => (by cases h), fun m nm v h => (by cases h), fun m nm h => (by cases h)⟩
      · rw [if_neg hc]
        refine ⟨fun m nm q v h => ?_, fun m nm v h => (by cases h), fun m nm h => (by cases h)⟩
        cases h
        refine ⟨p, by rw [e1, List.append_assoc], e2, e3, fun d hd => ?_, e5, e6⟩
        rcases List.mem_append.1 hd with hd | hd
        · exact e4 d hd
        · rw [List.mem_singleton.1 hd]; exact hc
    | un m0 nm0 v0 =>
      obtain ⟨p, e1, e2, e3, e4, e5, e6, e7⟩ := ih2 m0 nm0 v0 rfl
      simp only [pd]
      cases hc : uvB c with
      | true =>
        rw [if_pos rfl]
        unfold atD
        refine ⟨fun m nm q v h => ?_, fun m nm v h => ?_, fun m nm h => ?_⟩ <;> (revert h; repeat' split) <;> (intro h; cases h)
      | false =>
        rw [if_neg Bool.false_ne_true]
        refine ⟨fun m nm q v h => (by cases h), fun m nm v h => ?_, fun m nm h => (by cases h)⟩
        cases h
        refine ⟨p, by rw [e1, List.append_assoc], e2, e3, fun d hd => ?_, fun d t hd => ?_, by simp, e7⟩
        · rcases List.mem_append.1 hd with hd | hd
          · exact e4 d hd
          · rw [List.mem_singleton.1 hd]; exact hc
        · cases v0 with
          | nil => exact absurd rfl e6
          | cons d0 v1 => cases hd; exact e5 _ _ rfl
    | eq m0 nm0 =>
      obtain ⟨c0, hl, hq1, hq2⟩ := ih3 m0 nm0 rfl
      simp only [pd]
      cases hg : gapB c with
      | true =>
        rw [if_pos rfl]
        refine ⟨fun m nm q v h => (by cases h), fun m nm v h => (by cases h), fun m nm h => ⟨c, by simp, ?_, ?_⟩⟩ <;> (rintro rfl; revert hg; decide)
      | false =>
        rw [if_neg Bool.false_ne_true]
        by_cases hq : c = 34 ∨ c = 39
        · rw [if_pos hq]
          refine ⟨fun m nm q v h => ?_, fun m nm v h => (by cases h), fun m nm h => (by cases h)⟩
          cases h
          refine ⟨x ++ [c], by rw [List.append_nil], hsx, by rw [hrun]; simp only [pd]; rw [if_neg (by rw [hg]; exact Bool.false_ne_true), if_pos hq], (fun d hd => by cases hd), hq, by simp⟩
        · rw [if_neg hq]
          by_cases h62 : c = 62
          · rw [if_pos h62]
            unfold atD
            refine ⟨fun m nm q v h => ?_, fun m nm v h => ?_, fun m nm h => ?_⟩ <;> (revert h; repeat' split) <;> (intro h; cases h)
          · rw [if_neg h62]
            refine ⟨fun m nm q v h => (by cases h), fun m nm v h => ?_, fun m nm h => (by cases h)⟩
            cases h
            refine ⟨x, rfl, hx, hb, fun d hd => ?_, fun d t hd => ?_, by simp, c0, hl, hq1, hq2⟩
            · rw [List.mem_singleton.1 hd, uvB, hg]; simpa using h62
            · cases hd; exact ⟨fun e => hq (.inl e), fun e => hq (.inr e)⟩
    | an m0 nm0 =>
      simp only [pd]
      refine ⟨fun m nm q v h => ?_, fun m nm v h => ?_, fun m nm h => ?_⟩
      · revert h; unfold atD; repeat' split
        all_goals (intro h; cases h)
      · revert h; unfold atD; repeat' split
        all_goals (intro h; cases h)
      · have h61 : c = 61 := by
          revert h; unfold atD; repeat' split
          all_goals (intro h; first | assumption | cases h)
        exact ⟨c, by simp, by rw [h61]; decide, by rw [h61]; decide⟩
    | af m0 nm0 =>
      simp only [pd]
      refine ⟨fun m nm q v h => ?_, fun m nm v h => ?_, fun m nm h => ?_⟩
      · revert h; unfold atD; repeat' split
        all_goals (intro h; cases h)
      · revert h; unfold atD; repeat' split
        all_goals (intro h; cases h)
      · have h61 : c = 61 := by
          revert h; unfold atD; repeat' split
          all_goals (intro h; first | assumption | cases h)
        exact ⟨c, by simp, by rw [h61]; decide, by rw [h61]; decide⟩
    | _ =>
      simp only [pd, rawD]
      refine ⟨fun m nm q v h => ?_, fun m nm v h => ?_, fun m nm h => ?_⟩ <;> (revert h; try unfold atD) <;> repeat' split
      all_goals (intro h; cases h)
theorem last_pos {p : B} {c : UInt8} (h : p.getLast? = some c) : 0 < p.length := by
  cases p with
  | nil => cases h
  | cons => simp
/-- each page has its pieces -/
theorem pg_exists : ∀ (k : Nat) (r : B), r.length ≤ k → ∀ a, fresh a → ∃ l t, Pg a l t ∧ r = pageOf l t := by
  intro k
  induction k with
  | zero =>
    intro r hr a _
    have : r = [] := List.eq_nil_of_length_eq_zero (by omega)
    subst this
    exact ⟨[], [], .nil _ _ (fun n => scan_nil _), rfl⟩
  | succ k ih =>
    intro r hr a ha
    rcases first_end (n := 0) r a with h | ⟨x, d, r2, v, e1, e2, e3⟩
    · exact ⟨[], r, .nil _ _ h, rfl⟩
    · have hl : r.length = x.length + 1 + r2.length := by rw [e1]; simp; omega
      obtain ⟨b1, b2, b3⟩ := back a ha x e2
      generalize hb : prun a x = b at *
      cases b with
      | qu m nm q v0 =>
        obtain ⟨p, f1, f2, f3, f4, f5, f6⟩ := b1 m nm q v0 rfl
        simp only [pe] at e3
        split at e3
        · rename_i hc
          obtain ⟨l, t, g1, g2⟩ := ih r2 (by omega) (.atr m) trivial
          exact ⟨⟨p, v0, [q]⟩ :: l, t, .quo a p m nm v0 q l t f2 f3 hc.2 f5 f4 f6 g1, by rw [e1, f1, hc.1, g2]; simp [pageOf]⟩
        · cases e3
      | un m nm v0 =>
        obtain ⟨p, f1, f2, f3, f4, f5, f6, f7⟩ := b2 m nm v0 rfl
        simp only [pe] at e3
        split at e3
        · rename_i hc
          have hx : 0 < x.length := by rw [f1, List.length_append]; have := List.length_pos_iff.2 f6; omega
          obtain ⟨l, t, g1, g2⟩ := ih (d :: r2) (by simp only [List.length_cons]; omega) (.atr m) trivial
          exact ⟨⟨p, v0, []⟩ :: l, t, .unq a p m nm v0 d r2 l t f2 f3 hc.2 f4 f5 hc.1 (fun h => absurd h f6) g2.symm f7 g1, by rw [e1, f1, g2]; simp [pageOf]⟩
        · cases e3
      | eq m nm =>
        obtain ⟨c, f1, f2, f3⟩ := b3 m nm rfl
        simp only [pe] at e3
        split at e3
        · rename_i hc
          have hx := last_pos f1
          obtain ⟨l, t, g1, g2⟩ := ih (d :: r2) (by simp only [List.length_cons]; omega) (.atr m) trivial
          exact ⟨⟨x, [], []⟩ :: l, t, .unq a x m nm [] d r2 l t e2 hb hc.2 (fun _ h => by cases h) (fun _ _ h => by cases h) (by rw [hc.1]; decide) (fun _ => hc.1) g2.symm ⟨c, f1, f2, f3⟩ g1, by rw [e1, g2]; simp [pageOf]⟩
        · cases e3
      | _ => cases e3

/-- what is known of a piece: does its value stand in quotes? -/
def PcOk (x : Pc) : Prop := (x.c = [] ∧ ∃ c, x.p.getLast? = some c ∧ c ≠ 34 ∧ c ≠ 39) ∨ ∃ q, (q = 34 ∨ q = 39) ∧ x.c = [q] ∧ x.p.getLast? = some q
theorem pg_ok {a : PA} {l : List Pc} {t : B} (h : Pg a l t) : ∀ x ∈ l, PcOk x := by
  induction h with
  | nil => exact fun x hx => by cases hx
  | quo a p m nm v q l t h1 h2 h3 hq hv hp h ih =>
    intro x hx
    rcases List.mem_cons.1 hx with rfl | hx
    · exact .inr ⟨q, hq, rfl, hp⟩
    · exact ih x hx
  | unq a p m nm v d r l t h1 h2 h3 hv hv0 hd h62 hr hp h ih =>
    intro x hx
    rcases List.mem_cons.1 hx with rfl | hx
    · exact .inl ⟨rfl, hp⟩
    · exact ih x hx
theorem linksF_pieces (s : B) : ∃ l t, Pg .text l t ∧ s = pageOf l t ∧ linksF s.length s = linksOf 0 l := by
  obtain ⟨l, t, h1, h2⟩ := pg_exists s.length s (Nat.le_refl _) .text trivial
  refine ⟨l, t, h1, h2, ?_⟩
  have := scan_pg h1 0
  rw [← h2, Nat.zero_add, scan_links _ _ (Nat.le_refl _)] at this
  exact this
theorem linksF_of {l : List Pc} {t : B} (h : Pg .text l t) : linksF (pageOf l t).length (pageOf l t) = linksOf 0 l := by
  have := scan_pg h 0
  rw [Nat.zero_add, scan_links _ _ (Nat.le_refl _)] at this
  exact this

/-! a page with other values -/
/-- how a value is written at a place of a page -/
def wrV (s : B) (k : Nat) (v : B) : B := if s.getD (k - 1) 0 = 34 ∨ s.getD (k - 1) 0 = 39 then escB v else 34 :: (escB v ++ [34])
/-- the program's way -/
def repGo (s : B) : Nat → List Lk → List B → B
  | k, x :: l, v :: vs => (s.drop k).take (x.1 - k) ++ (wrV s x.1 v ++ repGo s (x.1 + x.2.1) l vs)
  | k, _, _ => s.drop k
/-- the document's way -/
def repBack (s : B) : List Lk → List B → B
  | x :: l, v :: vs => (repBack s l vs).take x.1 ++ (wrV (repBack s l vs) x.1 v ++ (repBack s l vs).drop (x.1 + x.2.1))
  | _, _ => s
theorem getD_last {a p b : B} {c : UInt8} (h : p.getLast? = some c) : (a ++ p ++ b).getD (a.length + p.length - 1) 0 = c := by
  have hp := last_pos h
  rw [List.getD_eq_getElem?_getD, List.getElem?_append_left (by rw [List.length_append]; omega), List.getElem?_append_right (by omega), show a.length + p.length - 1 - a.length = p.length - 1 by omega, ← List.getLast?_eq_getElem?, h]
  rfl
def wrX (c v : B) : B := match c with
  | [] => 34 :: (escB v ++ [34])
  | _ => escB v
theorem wrV_pc {x : Pc} (hx : PcOk x) (a b v : B) : wrV (a ++ x.p ++ b) (a.length + x.p.length) v = wrX x.c v := by
  unfold wrV wrX
  rcases hx with ⟨h1, c, h2, h3, h4⟩ | ⟨q, hq, h1, h2⟩
  · rw [getD_last h2, if_neg (fun e => e.elim h3 h4), h1]
  · rw [getD_last h2, if_pos hq, h1]
theorem repGo_pc (t : B) : ∀ (l : List Pc) (vs : List B) (pre c0 : B), (∀ x ∈ l, PcOk x) → vs.length = l.length → repGo (pre ++ (c0 ++ pageOf l t)) pre.length (linksOf (pre.length + c0.length) l) vs = c0 ++ pageOf (turn l vs) t
  | [], vs, pre, c0, _, hv => by
    have : vs = [] := List.eq_nil_of_length_eq_zero (by simpa using hv)
    subst this
    simp [repGo, linksOf, turn, pageOf]
  | x :: l, [], pre, c0, _, hv => by cases hv
  | x :: l, v :: vs, pre, c0, hok, hv => by
    have hx := hok x List.mem_cons_self
    have ih := repGo_pc t l vs (pre ++ c0 ++ x.p ++ x.v) x.c (fun y hy => hok y (List.mem_cons_of_mem _ hy)) (by simpa using hv)
    simp only [linksOf, repGo, pageOf]
    have e1 : pre ++ (c0 ++ (x.p ++ (x.v ++ (x.c ++ pageOf l t)))) = pre ++ c0 ++ x.p ++ x.v ++ (x.c ++ pageOf l t) := by simp only [List.append_assoc]
    have e2 : pre.length + c0.length + x.p.length + x.v.length = (pre ++ c0 ++ x.p ++ x.v).length := by simp only [List.length_append]
    have e3 : ((pre ++ (c0 ++ (x.p ++ (x.v ++ (x.c ++ pageOf l t))))).drop pre.length).take (pre.length + c0.length + x.p.length - pre.length) = c0 ++ x.p := by
      rw [List.drop_left' rfl, show pre.length + c0.length + x.p.length - pre.length = (c0 ++ x.p).length by rw [List.length_append]; omega, ← List.append_assoc, List.take_left' rfl]
    have e4 : pre.length + c0.length + x.p.length = (pre ++ c0).length + x.p.length := by rw [List.length_append]
    rw [e3]
    have e5 : wrV (pre ++ (c0 ++ (x.p ++ (x.v ++ (x.c ++ pageOf l t))))) (pre.length + c0.length + x.p.length) v = wrX x.c v := by
      rw [e4, show pre ++ (c0 ++ (x.p ++ (x.v ++ (x.c ++ pageOf l t)))) = (pre ++ c0) ++ x.p ++ (x.v ++ (x.c ++ pageOf l t)) by simp only [List.append_assoc]]
      exact wrV_pc hx (pre ++ c0) _ v
    rw [e5, e1, e2, ih]
    rcases hx with ⟨h1, _⟩ | ⟨q, _, h1, _⟩
    · simp only [turn, h1, wrX, pageOf, List.append_assoc, List.nil_append, List.cons_append]
    · simp only [turn, h1, wrX, pageOf, List.append_assoc, List.nil_append, List.cons_append]
theorem repBack_pc (t : B) : ∀ (l : List Pc) (vs : List B) (pre : B), (∀ x ∈ l, PcOk x) → vs.length = l.length → repBack (pre ++ pageOf l t) (linksOf pre.length l) vs = pre ++ pageOf (turn l vs) t
  | [], vs, pre, _, hv => by
    have : vs = [] := List.eq_nil_of_length_eq_zero (by simpa using hv)
    subst this
    simp [repBack, linksOf, turn, pageOf]
  | x :: l, [], pre, _, hv => by cases hv
  | x :: l, v :: vs, pre, hok, hv => by
    have hx := hok x List.mem_cons_self
    have ih := repBack_pc t l vs (pre ++ x.p ++ x.v ++ x.c) (fun y hy => hok y (List.mem_cons_of_mem _ hy)) (by simpa using hv)
    simp only [linksOf, repBack, pageOf]
    have e1 : pre ++ (x.p ++ (x.v ++ (x.c ++ pageOf l t))) = pre ++ x.p ++ x.v ++ x.c ++ pageOf l t := by simp only [List.append_assoc]
    have e2 : pre.length + x.p.length + x.v.length + x.c.length = (pre ++ x.p ++ x.v ++ x.c).length := by simp only [List.length_append]
    rw [e1, e2, ih]
    have e3 : (pre ++ x.p ++ x.v ++ x.c ++ pageOf (turn l vs) t).take (pre.length + x.p.length) = pre ++ x.p := by
      rw [show pre.length + x.p.length = (pre ++ x.p).length by rw [List.length_append], show pre ++ x.p ++ x.v ++ x.c ++ pageOf (turn l vs) t = (pre ++ x.p) ++ (x.v ++ x.c ++ pageOf (turn l vs) t) by simp only [List.append_assoc], List.take_left' rfl]
    have e4 : (pre ++ x.p ++ x.v ++ x.c ++ pageOf (turn l vs) t).drop (pre.length + x.p.length + x.v.length) = x.c ++ pageOf (turn l vs) t := by
      rw [show pre.length + x.p.length + x.v.length = (pre ++ x.p ++ x.v).length by simp only [List.length_append], show pre ++ x.p ++ x.v ++ x.c ++ pageOf (turn l vs) t = (pre ++ x.p ++ x.v) ++ (x.c ++ pageOf (turn l vs) t) by simp only [List.append_assoc], List.drop_left' rfl]
    have e5 : wrV (pre ++ x.p ++ x.v ++ x.c ++ pageOf (turn l vs) t) (pre.length + x.p.length) v = wrX x.c v := by
      rw [show pre ++ x.p ++ x.v ++ x.c ++ pageOf (turn l vs) t = pre ++ x.p ++ (x.v ++ x.c ++ pageOf (turn l vs) t) by simp only [List.append_assoc]]
      exact wrV_pc hx pre _ v
    rw [e3, e4, e5]
    rcases hx with ⟨h1, _⟩ | ⟨q, _, h1, _⟩
    · simp only [turn, h1, wrX, pageOf, List.append_assoc, List.nil_append, List.cons_append]
    · simp only [turn, h1, wrX, pageOf, List.append_assoc, List.nil_append, List.cons_append]
/-- both ways to replace come to the same -/
theorem rep_same (s : B) (vs : List B) (hv : vs.length = (linksF s.length s).length) : repGo s 0 (linksF s.length s) vs = repBack s (linksF s.length s) vs := by
  obtain ⟨l, t, h1, h2, h3⟩ := linksF_pieces s
  have hlen : ∀ (l : List Pc) (k : Nat), (linksOf k l).length = l.length := fun l => by
    induction l with
    | nil => exact fun _ => rfl
    | cons x l ih => exact fun k => by simp only [linksOf, List.length_cons, ih]
  rw [h3, hlen] at hv
  rw [h3]
  have g1 := repGo_pc t l vs [] [] (pg_ok h1) hv
  have g2 := repBack_pc t l vs [] (pg_ok h1) hv
  simp only [List.nil_append, List.length_nil, Nat.add_zero] at g1 g2
  rw [← h2] at g1 g2
  rw [g1, g2]
/-! what the law asks of a page and the page with other values -/
def Rel (x y : B) : Prop := y = x ∨ y = x ++ [34] ∨ y = 34 :: x ∨ y = 34 :: (x ++ [34])
def TurnOk (s t : B) : Nat → Nat → List Lk → List Lk → Prop
  | a, b, x :: L, y :: M => a ≤ x.1 ∧ x.1 + x.2.1 ≤ s.length ∧ b ≤ y.1 ∧ y.1 + y.2.1 ≤ t.length ∧ Rel ((s.drop a).take (x.1 - a)) ((t.drop b).take (y.1 - b)) ∧ TurnOk s t (x.1 + x.2.1) (y.1 + y.2.1) L M
  | a, b, [], [] => a ≤ s.length ∧ b ≤ t.length ∧ ∃ z, t.drop b = z ++ s.drop a ∧ z.length ≤ 1
  | _, _, _, _ => False
theorem linksOf_len : ∀ (l : List Pc) (k : Nat), (linksOf k l).length = l.length
  | [], _ => rfl
  | x :: l, k => by simp only [linksOf, List.length_cons, linksOf_len l]
theorem turn_vals : ∀ (l : List Pc) (vs : List B) (k : Nat), vs.length = l.length → (linksOf k (turn l vs)).map (·.2.2) = vs
  | [], [], _, _ => rfl
  | x :: l, v :: vs, k, h => by
    have hl : vs.length = l.length := by simpa using h
    cases hc : x.c with
    | nil => simp only [turn, hc, linksOf, List.map_cons, unesc_esc, turn_vals l vs _ hl]
    | cons q r => simp only [turn, hc, linksOf, List.map_cons, unesc_esc, turn_vals l vs _ hl]
theorem turn_two : ∀ (l : List Pc) (vs : List B), vs.length = l.length → turn (turn l vs) vs = turn l vs
  | [], [], _ => rfl
  | x :: l, v :: vs, h => by
    have ih := turn_two l vs (by simpa using h)
    cases hc : x.c with
    | nil => simp only [turn, hc, ih]
    | cons q r => simp only [turn, hc, ih]
theorem turn_ok (tl : B) : ∀ (l : List Pc) (vs : List B) (pre pre' c0 c0' : B), vs.length = l.length → (c0' = c0 ∨ c0 = [] ∧ c0' = [34]) →
    TurnOk (pre ++ (c0 ++ pageOf l tl)) (pre' ++ (c0' ++ pageOf (turn l vs) tl)) pre.length pre'.length (linksOf (pre.length + c0.length) l) (linksOf (pre'.length + c0'.length) (turn l vs))
  | [], [], pre, pre', c0, c0', _, hc => by
    simp only [turn, linksOf, pageOf, TurnOk]
    refine ⟨by rw [List.length_append]; omega, by rw [List.length_append]; omega, ?_⟩
    rw [List.drop_left' rfl, List.drop_left' rfl]
    rcases hc with rfl | ⟨rfl, rfl⟩
    · exact ⟨[], rfl, by simp⟩
    · exact ⟨[34], rfl, by simp⟩
  | x :: l, v :: vs, pre, pre', c0, c0', hv, hc => by
    have hl : vs.length = l.length := by simpa using hv
    have key : ∀ (y : Pc), (y.p = x.p ∨ y.p = x.p ++ [34]) → (y.c = x.c ∨ x.c = [] ∧ y.c = [34]) →
        TurnOk (pre ++ (c0 ++ pageOf (x :: l) tl)) (pre' ++ (c0' ++ pageOf (y :: turn l vs) tl)) pre.length pre'.length (linksOf (pre.length + c0.length) (x :: l)) (linksOf (pre'.length + c0'.length) (y :: turn l vs)) := by
      intro y hp hcc
      have ih := turn_ok tl l vs (pre ++ c0 ++ x.p ++ x.v) (pre' ++ c0' ++ y.p ++ y.v) x.c y.c hl hcc
      simp only [linksOf, pageOf, TurnOk]
      have e1 : pre ++ (c0 ++ (x.p ++ (x.v ++ (x.c ++ pageOf l tl)))) = pre ++ c0 ++ x.p ++ x.v ++ (x.c ++ pageOf l tl) := by simp only [List.append_assoc]
      have e1' : pre' ++ (c0' ++ (y.p ++ (y.v ++ (y.c ++ pageOf (turn l vs) tl)))) = pre' ++ c0' ++ y.p ++ y.v ++ (y.c ++ pageOf (turn l vs) tl) := by simp only [List.append_assoc]
      have e2 : pre.length + c0.length + x.p.length + x.v.length = (pre ++ c0 ++ x.p ++ x.v).length := by simp only [List.length_append]
      have e2' : pre'.length + c0'.length + y.p.length + y.v.length = (pre' ++ c0' ++ y.p ++ y.v).length := by simp only [List.length_append]
      refine ⟨by omega, by simp only [List.length_append]; omega, by omega, by simp only [List.length_append]; omega, ?_, by rw [e1, e1', e2, e2']; exact ih⟩
      rw [List.drop_left' rfl, List.drop_left' rfl, show pre.length + c0.length + x.p.length - pre.length = (c0 ++ x.p).length by rw [List.length_append]; omega, show pre'.length + c0'.length + y.p.length - pre'.length = (c0' ++ y.p).length by rw [List.length_append]; omega, ← List.append_assoc c0 x.p, ← List.append_assoc c0' y.p, List.take_left' rfl, List.take_left' rfl]
      unfold Rel
      rcases hc with rfl | ⟨rfl, rfl⟩ <;> rcases hp with e | e <;> rw [e]
      · exact .inl rfl
      · exact .inr (.inl (by rw [List.append_assoc]))
      · exact .inr (.inr (.inl rfl))
      · exact .inr (.inr (.inr rfl))
    cases hcx : x.c with
    | nil =>
      have := key ⟨x.p ++ [34], escB v, [34]⟩ (.inr rfl) (.inr ⟨hcx, rfl⟩)
      simp only [turn, hcx]
      exact this
    | cons q r =>
      have := key ⟨x.p, escB v, x.c⟩ (.inl rfl) (.inl rfl)
      rw [hcx] at this
      simp only [turn, hcx]
      exact this
/-- ELSEWHERE, AND ONLY THERE -/
theorem page_turns (s : B) (vs : List B) (hv : vs.length = (linksF s.length s).length) :
    ∃ t u, repGo s 0 (linksF s.length s) vs = t ∧ repGo s 0 (linksF s.length s) ((linksF s.length s).map (·.2.2)) = u ∧
      (linksF t.length t).length = (linksF s.length s).length ∧ (linksF u.length u).length = (linksF s.length s).length ∧
      (linksF t.length t).map (·.2.2) = vs ∧ (linksF u.length u).map (·.2.2) = (linksF s.length s).map (·.2.2) ∧
      TurnOk s t 0 0 (linksF s.length s) (linksF t.length t) ∧ repGo u 0 (linksF u.length u) ((linksF s.length s).map (·.2.2)) = u := by
  obtain ⟨l, tl, h1, h2, h3⟩ := linksF_pieces s
  have hvl : vs.length = l.length := by rw [hv, h3, linksOf_len]
  have hol : ((linksF s.length s).map (·.2.2)).length = l.length := by rw [List.length_map, h3, linksOf_len]
  have g1 := repGo_pc tl l vs [] [] (pg_ok h1) hvl
  have g2 := repGo_pc tl l ((linksF s.length s).map (·.2.2)) [] [] (pg_ok h1) hol
  simp only [List.nil_append, List.length_nil, Nat.add_zero] at g1 g2
  rw [← h2, ← h3] at g1 g2
  have p1 := pg_turn h1 vs hvl
  have p2 := pg_turn h1 ((linksF s.length s).map (·.2.2)) hol
  have q1 := linksF_of p1
  have q2 := linksF_of p2
  refine ⟨_, _, g1, g2, ?_, ?_, ?_, ?_, ?_, ?_⟩
  · rw [q1, linksOf_len, turn_app_len l vs hvl, h3, linksOf_len]
  · rw [q2, linksOf_len, turn_app_len l _ hol, h3, linksOf_len]
  · rw [q1, turn_vals l vs 0 hvl]
  · rw [q2, turn_vals l _ 0 hol]
  · have := turn_ok tl l vs [] [] [] [] hvl (.inl rfl)
    simp only [List.nil_append, List.length_nil, Nat.add_zero] at this
    rw [← h2, ← h3, ← q1] at this
    exact this
  · have hol2 : ((linksF s.length s).map (·.2.2)).length = (turn l ((linksF s.length s).map (·.2.2))).length := by rw [turn_app_len l _ hol, hol]
    have g3 := repGo_pc tl (turn l ((linksF s.length s).map (·.2.2))) ((linksF s.length s).map (·.2.2)) [] [] (pg_ok p2) hol2
    simp only [List.nil_append, List.length_nil, Nat.add_zero] at g3
    rw [q2, g3, turn_two l _ hol]
end Go.Proofs.YtignjjnflcpiiaaGreatDoor
