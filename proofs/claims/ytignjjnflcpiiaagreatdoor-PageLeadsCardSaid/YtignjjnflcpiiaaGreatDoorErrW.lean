/- api.Tell, plain.Place, is and bare, walked: at nil, at an Errno, at a pointer to an At. -/
import Derived.Test.YtignjjnflcpiiaaGreatDoorErrAs
import Derived.Below
import Derived.Handy
set_option linter.unusedVariables false
set_option linter.unusedSimpArgs false
set_option maxHeartbeats 1000000
namespace Go.Proofs.YtignjjnflcpiiaaGreatDoor
open Go.RowKit Go.Extern.Stop Go.Stop Go.Extern

/-- errors.errorType holds the handle of error's type -/
def ErrVar (w : World) : Prop := w.cell? ⟨2, 0, none⟩ = some (rty 32)
theorem errVar_lt {w : World} (h : ErrVar w) : 2 < w.heap.size := by
  rcases Nat.lt_or_ge 2 w.heap.size with h' | h'
  · exact h'
  · simp [ErrVar, World.cell?, Array.getElem?_eq_none h'] at h
theorem ErrVar.below {B : Nat} {w w' : World} (h : ErrVar w) (hb : Below B w w') (hB : 2 < B) : ErrVar w' := by
  unfold ErrVar
  rw [hb.cell hB]
  exact h
/-- an error as this program makes them, and what it tells -/
def IsErr (w : World) (v : Value) (e place : Int) : Prop :=
  (v = .nilIface ∧ e = 0 ∧ place = -1) ∨ (v = .iface 28 (.int .i64 e) ∧ place = -1) ∨
    ∃ b o : Nat, v = .iface 98 (.pointer (some ⟨b, o, none⟩)) ∧ w.cell? ⟨b, o, none⟩ = some (.int .i64 e) ∧ w.cell? ⟨b, o + 1, none⟩ = some (.int .i64 place)
theorem cellOf_lt {w : World} {b k : Nat} {x : Value} (h : w.cell? ⟨b, k, none⟩ = some x) : b < w.heap.size := by
  rcases Nat.lt_or_ge b w.heap.size with h' | h'
  · exact h'
  · simp [World.cell?, Array.getElem?_eq_none h'] at h
theorem IsErr.below {w w' : World} {v : Value} {e p : Int} (h : IsErr w v e p) (hb : Below w.heap.size w w') : IsErr w' v e p := by
  rcases h with h | h | ⟨b, o, h1, h2, h3⟩
  · exact .inl h
  · exact .inr (.inl h)
  · exact .inr (.inr ⟨b, o, h1, by rw [hb.cell (cellOf_lt h2)]; exact h2, by rw [hb.cell (cellOf_lt h3)]; exact h3⟩)

set_option maxHeartbeats 1000000 in
theorem tell_any (v : Value) (e p : Int) (w : World) (h : IsErr w v e p) (hg : ErrVar w) :
    Calls Tryz.prog 16 #[v] w fun x w' => x = .returned (.int .i64 e) ∧ Below w.heap.size w w' := by
  have hgl := errVar_lt hg
  have hg1 : ErrVar (w.alloc (.cells #[.int .i64 0] 28)) := hg.below ((Below.refl _ w).alloc (Nat.le_refl _) _) hgl
  have bel : ∀ k : Int, Below w.heap.size w (((asW ⟨w.heap.size, 0, none⟩ (w.alloc (.cells #[.int .i64 0] 28))).alloc (.cells #[.int .i64 k] 28)).setCell ⟨w.heap.size, 0, none⟩ (.int .i64 k)) := fun k =>
    (((((((Below.refl _ w).alloc (Nat.le_refl _) _).alloc (by simp) _).alloc (by simp; omega) _).alloc (by simp; omega) _).alloc (by simp; omega) _)).setCell (Nat.le_refl _) _
  have cel : ∀ k : Int, (((asW ⟨w.heap.size, 0, none⟩ (w.alloc (.cells #[.int .i64 0] 28))).alloc (.cells #[.int .i64 k] 28)).setCell ⟨w.heap.size, 0, none⟩ (.int .i64 k)).cell? ⟨w.heap.size, 0, none⟩ = some (.int .i64 k) := fun k => by
    rw [World.cell?_setCell_same (u := .int .i64 0)]
    rw [World.cell?_alloc_lt _ _ ⟨w.heap.size, 0, none⟩ (by simp; omega), World.cell?_alloc_lt _ _ ⟨w.heap.size, 0, none⟩ (by simp; omega), World.cell?_alloc_lt _ _ ⟨w.heap.size, 0, none⟩ (by simp; omega), World.cell?_alloc_lt _ _ ⟨w.heap.size, 0, none⟩ (by simp)]
    simp
  have Bel := hid bel
  clear bel
  rcases h with ⟨rfl, rfl, rfl⟩ | ⟨rfl, rfl⟩ | ⟨b, o, rfl, h2, h3⟩
  · go_enter Tryz.func16, Tryz.ntmps16
    go_wp2_with fail
    go_ret
    exact ⟨rfl, Below.refl _ _⟩
  · go_enter Tryz.func16, Tryz.ntmps16
    go_wp2_with fail
    refine (as_errno e ⟨w.heap.size, 0, none⟩ (.int .i64 0) _ hg1 (by simp) (by simp)).mono ?_
    rintro x w1 ⟨rfl, rfl⟩
    have ce := cel e
    have be := Bel.out e
    generalize (((asW ⟨w.heap.size, 0, none⟩ (w.alloc (.cells #[.int .i64 0] 28))).alloc (.cells #[.int .i64 e] 28)).setCell ⟨w.heap.size, 0, none⟩ (.int .i64 e)) = w1 at ce be ⊢
    go_wp2_with fail
    go_ret
    exact ⟨rfl, be⟩
  · have h2' : (w.alloc (.cells #[.int .i64 0] 28)).cell? ⟨b, o, none⟩ = some (.int .i64 e) := by
      rw [World.cell?_alloc_lt _ _ ⟨b, o, none⟩ (cellOf_lt h2)]; exact h2
    go_enter Tryz.func16, Tryz.ntmps16
    go_wp2_with fail
    refine (as_at b o e ⟨w.heap.size, 0, none⟩ (.int .i64 0) _ h2' hg1 (by simp) (by simp)).mono ?_
    rintro x w1 ⟨rfl, rfl⟩
    have ce := cel e
    have be := Bel.out e
    generalize (((asW ⟨w.heap.size, 0, none⟩ (w.alloc (.cells #[.int .i64 0] 28))).alloc (.cells #[.int .i64 e] 28)).setCell ⟨w.heap.size, 0, none⟩ (.int .i64 e)) = w1 at ce be ⊢
    go_wp2_with fail
    go_ret
    exact ⟨rfl, be⟩

theorem atNo (v : Value) (w : World) : (Instr.typeAssert (.iface 28 v) 32 98 true).run Tryz.prog w = .ok (.tuple #[.pointer none, .bool false]) w := by kernel_rfl
theorem atYes (v : Value) (w : World) : (Instr.typeAssert (.iface 98 v) 32 98 true).run Tryz.prog w = .ok (.tuple #[v, .bool true]) w := by kernel_rfl

set_option maxHeartbeats 1000000 in
set_option maxRecDepth 100000 in
theorem place_any (v : Value) (e p : Int) (w : World) (h : IsErr w v e p) (hg : ErrVar w) :
    Calls Tryz.prog 58 #[v] w fun x w' => x = .returned (.tuple #[.int .i64 e, .int .i64 p]) ∧ Below w.heap.size w w' := by
  have nU := noUnE
  have aN := atNo
  have aY := atYes
  have Tl := hid (tell_any v e p w h hg)
  rcases h with ⟨rfl, rfl, rfl⟩ | ⟨rfl, rfl⟩ | ⟨b, o, rfl, h2, h3⟩
  · go_enter Tryz.func58, Tryz.ntmps58
    go_wp2_with fail
    refine Tl.out.mono ?_
    rintro x w1 ⟨rfl, b1⟩
    go_wp2_with fail
    refine wp_loop_rounds 1 ?_
    rw [rounds_succ]
    go_wp2_with fail
    go_ret2
    exact ⟨rfl, b1⟩
  · go_enter Tryz.func58, Tryz.ntmps58
    go_wp2_with fail
    refine Tl.out.mono ?_
    rintro x w1 ⟨rfl, b1⟩
    go_wp2_with fail
    refine wp_loop_rounds 1 ?_
    rw [rounds_succ]
    go_wp2_with fail
    go_ret2
    exact ⟨rfl, b1⟩
  · go_enter Tryz.func58, Tryz.ntmps58
    go_wp2_with fail
    refine Tl.out.mono ?_
    rintro x w1 ⟨rfl, b1⟩
    have h3' : w1.cell? ⟨b, o + 1, none⟩ = some (.int .i64 p) := by rw [b1.cell (cellOf_lt h3)]; exact h3
    go_wp2_with fail
    refine wp_loop_rounds 1 ?_
    rw [rounds_succ]
    go_wp2_with fail
    go_region
    go_wp2_with fail
    go_ret2
    exact ⟨rfl, b1.drew⟩

set_option maxHeartbeats 1000000 in
theorem is_any (v : Value) (e p e' p' : Int) (w : World) (h : IsErr w v e p) (hg : ErrVar w) :
    Calls Tryz.prog 24 #[v, .agg #[.int .i64 e', .int .i64 p']] w fun x w' => x = .returned (.bool (e == e' && p == p')) ∧ Below w.heap.size w w' := by
  have Pl := hid (fun W (hb : Below w.heap.size w W) => place_any v e p W (h.below hb) (hg.below hb (errVar_lt hg)))
  clear h hg
  go_enter Tryz.func24, Tryz.ntmps24
  go_wp2_with fail
  refine (Pl.out _ ((Below.refl _ w).alloc (Nat.le_refl _) _)).mono ?_
  rintro x w1 ⟨rfl, b1⟩
  have c0 : w1.cell? ⟨w.heap.size, 0, none⟩ = some (.int .i64 e') := by rw [b1.cell (by simp)]; simp
  have c1 : w1.cell? ⟨w.heap.size, 1, none⟩ = some (.int .i64 p') := by rw [b1.cell (by simp)]; simp
  have b2 : Below w.heap.size w w1 := ((Below.refl _ w).alloc (Nat.le_refl _) _).trans (b1.mono (by simp))
  rcases hee : e == e' with _ | _
  all_goals
    go_wp2_with fail
    go_ret
    exact ⟨by rw [hee]; simp, b2⟩

set_option maxHeartbeats 1000000 in
theorem bareF_any (e' : Int) (w : World) :
    Calls Tryz.prog 35 #[.int .i64 e'] w fun x w' => x = .returned (.agg #[.int .i64 e', .int .i64 (-1)]) ∧ Below w.heap.size w w' := by
  go_enter Tryz.func35, Tryz.ntmps35
  go_wp2_with fail
  go_returns
  exact ⟨rfl, (Below.refl _ w).alloc (Nat.le_refl _) _⟩

set_option maxHeartbeats 1000000 in
theorem bare_any (v : Value) (e p e' : Int) (w : World) (h : IsErr w v e p) (hg : ErrVar w) :
    Calls Tryz.prog 12 #[v, .int .i64 e'] w fun x w' => x = .returned (.bool (e == e' && p == -1)) ∧ Below w.heap.size w w' := by
  have Is := hid (fun W (hb : Below w.heap.size w W) => is_any v e p e' (-1) W (h.below hb) (hg.below hb (errVar_lt hg)))
  clear h hg
  go_enter Tryz.func12, Tryz.ntmps12
  go_wp2_with fail
  refine (bareF_any e' _).mono ?_
  rintro x w1 ⟨rfl, b1⟩
  go_wp2_with fail
  refine (Is.out _ b1).mono ?_
  rintro x w2 ⟨rfl, b2⟩
  go_wp2_with fail
  go_ret
  exact ⟨rfl, b1.trans (b2.mono b1.size)⟩
end Go.Proofs.YtignjjnflcpiiaaGreatDoor
