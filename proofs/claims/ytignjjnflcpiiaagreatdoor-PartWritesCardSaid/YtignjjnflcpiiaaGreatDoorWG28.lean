import Derived.Test.YtignjjnflcpiiaaGreatDoorWG7
import Derived.Conc.MuLone
import Derived.Laws.NewBlocks
import Derived.RegionTactic
import Derived.RegionCalls
import Derived.ChangeAlike
import Derived.Test.YtignjjnflcpiiaaGreatDoorWReplW
import Derived.Test.YtignjjnflcpiiaaGreatDoorWG16
import Derived.Handy
set_option linter.unusedVariables false
set_option linter.unusedSimpArgs false
set_option maxHeartbeats 1000000
namespace Go.Proofs.YtignjjnflcpiiaaGreatDoor
open Go.RowKit
abbrev muLink : Go.Conc.Locks.MuLink := { lock := 190, unlock := 191, ilock := 210, iunlock := 211, lockSlow := 225, unlockSlow := 228, disable := 221, enable := 223, acquire := 224, relMerge := 226, cas32 := 222, add32 := 227, tMutex := 165, tIMutex := 163, tPMutex := 273, tPIMutex := 295, tPI32 := 297, tUP := 132, tNoCopy := 157, tU32 := 159 }
theorem muLib : Go.Conc.Locks.MuLib Tryz.prog muLink :=
  ⟨Tryz.func190, Tryz.func191, Tryz.func210, Tryz.func211, Tryz.func221, Tryz.func223, Tryz.func224, Tryz.func226, Tryz.func222, Tryz.func227, Tryz.underlying163, Tryz.runUnderlying163, Tryz.sizeOf163, Tryz.isAgg163, Tryz.zeroValue163, Tryz.underlying165, Tryz.runUnderlying165, Tryz.sizeOf165, Tryz.isAgg165, Tryz.zeroValue165, Tryz.underlying273, Tryz.runUnderlying273, Tryz.sizeOf273, Tryz.isAgg273, Tryz.zeroValue273, Tryz.underlying295, Tryz.runUnderlying295, Tryz.sizeOf295, Tryz.isAgg295, Tryz.zeroValue295, Tryz.underlying297, Tryz.runUnderlying297, Tryz.sizeOf297, Tryz.isAgg297, Tryz.zeroValue297, Tryz.underlying132, Tryz.runUnderlying132, Tryz.sizeOf132, Tryz.isAgg132, Tryz.zeroValue132, Tryz.underlying157, Tryz.runUnderlying157, Tryz.sizeOf157, Tryz.isAgg157, Tryz.zeroValue157, Tryz.underlying21, Tryz.runUnderlying21, Tryz.sizeOf21, Tryz.isAgg21, Tryz.zeroValue21, (by kernel_rfl)⟩
theorem store_deferred (a : Addr) (x : Value) (u : FrameMode) (w : World) (hc : w.cell? a = some x) (hz : w.frozen? a = false) :
    CallsD Tryz.prog 192 #[.pointer (some a), .bool true] u w fun e u' w' => u' = u ∧ (e = .returned (.tuple #[]) ∧ w' = w.drew.setCell a (.int .u32 1)) := by
  have hc' : w.drew.cell? a = some x := by go_simp
  have hz' : w.drew.frozen? a = false := by go_simp
  have hst := run_call_store (P := Tryz.prog) Tryz.func212 (by kernel_rfl) (by kernel_rfl) (by kernel_rfl) (by kernel_rfl) (k := .u32) (y := 1) hc' hz'
  go_enter_d Tryz.func192, Tryz.ntmps192
  go_wp2
  go_region_calls
  all_goals (go_end0; exact ⟨rfl, rfl⟩)
def Work (f : FuncId) (arg : Value) (b : Nat) (w1 : World) (R : World → Prop) : Prop :=
  Calls Tryz.prog f #[arg] w1 fun e w' => e = .returned (.tuple #[]) ∧ R w' ∧ w'.cell? ⟨b, 0, none⟩ = some (.int .u32 0) ∧ w'.cell? ⟨b, 1, none⟩ = some (.int .i32 1) ∧ w'.frozen? ⟨b, 0, none⟩ = false ∧ w'.frozen? ⟨b, 1, none⟩ = false
set_option maxRecDepth 100000 in
set_option maxHeartbeats 1600000 in
theorem slow_any (b : Nat) (f : FuncId) (arg : Value) (R : World → Prop) (w : World)
    (hcf : ∀ args w, (callFunc f args).run Tryz.prog w = .ok (.enter f args) w)
    (h0 : w.cell? ⟨b, 0, none⟩ = some (.int .u32 0)) (h1 : w.cell? ⟨b, 1, none⟩ = some (.int .i32 0))
    (f0 : w.frozen? ⟨b, 0, none⟩ = false) (f1 : w.frozen? ⟨b, 1, none⟩ = false)
    (hw : Work f arg b (w.setCell ⟨b, 1, none⟩ (.int .i32 1)) R) :
    Calls Tryz.prog 163 #[.pointer (some ⟨b, 0, none⟩), .func (.func f) #[arg] #[]] w fun e w' => e = .returned (.tuple #[]) ∧
      ∃ w1, R w1 ∧ w' = (w1.drew.setCell ⟨b, 0, none⟩ (.int .u32 1)).setCell ⟨b, 1, none⟩ (.int .i32 0) := by
  have hl := run_call_load (P := Tryz.prog) Tryz.func189 (by kernel_rfl) (by kernel_rfl) (by kernel_rfl) .u32 (by kernel_rfl) (w := w.setCell ⟨b, 1, none⟩ (.int .i32 1)) (a := ⟨b, 0, none⟩) (x := 0) ((World.cell?_setCell_other _ ⟨b, 1, none⟩ ⟨b, 0, none⟩ _ (by simp)).trans h0)
  have hnot : ∀ (x : Bool) (w : World), (Op.unary .not (.bool x)).run Tryz.prog w = .ok (.bool (!x)) w := fun _ _ => rfl
  go_enter_defers Tryz.func163, Tryz.ntmps163
  go_wp2_with (go_at_call 190; refine (Go.MuLone.lock_free muLib ⟨b, 1, none⟩ _ (by go_simp) (by go_simp)).mono ?_; rintro e w' ⟨rfl, rfl⟩)
  go_wp2
  refine hw.mono ?_
  rintro e w1 ⟨rfl, hR, c0, c1, z0, z1⟩
  go_wp2
  refine leaves_cons (f := 192) (args := #[.pointer (some ⟨b, 0, none⟩), .bool true]) (by simp) (by simp [go_sem]) ?_
  refine (store_deferred ⟨b, 0, none⟩ (.int .u32 0) .returning _ c0 z0).mono ?_
  rintro e u' w'' ⟨rfl, rfl, rfl⟩
  refine leaves_cons (f := 191) (args := #[.pointer (some ⟨b, 1, none⟩)]) (by simp [settle]) (by simp [go_sem]) ?_
  refine (Go.MuLone.unlock_deferred muLib ⟨b, 1, none⟩ _ _ ?_ (by simp [z1])).mono ?_
  · refine (World.cell?_setCell_other _ ⟨b, 0, none⟩ ⟨b, 1, none⟩ _ (by simp)).trans ?_
    rw [World.cell?_drew]
    exact c1
  rintro e u' w'' ⟨rfl, rfl, rfl⟩
  simp [Leaves, settle, results, Tryz.results163]
  first | exact ⟨w1, hR, rfl⟩ | trace_state
theorem do_any (b : Nat) (f : FuncId) (arg : Value) (R : World → Prop) (w : World)
    (hcf : ∀ args w, (callFunc f args).run Tryz.prog w = .ok (.enter f args) w)
    (h0 : w.cell? ⟨b, 0, none⟩ = some (.int .u32 0)) (h1 : w.cell? ⟨b, 1, none⟩ = some (.int .i32 0))
    (f0 : w.frozen? ⟨b, 0, none⟩ = false) (f1 : w.frozen? ⟨b, 1, none⟩ = false)
    (hw : Work f arg b (w.setCell ⟨b, 1, none⟩ (.int .i32 1)) R) :
    Calls Tryz.prog 108 #[.pointer (some ⟨b, 0, none⟩), .func (.func f) #[arg] #[]] w fun e w' => e = .returned (.tuple #[]) ∧
      ∃ w1, R w1 ∧ w' = (w1.drew.setCell ⟨b, 0, none⟩ (.int .u32 1)).setCell ⟨b, 1, none⟩ (.int .i32 0) := by
  have hl := run_call_load (P := Tryz.prog) Tryz.func189 (by kernel_rfl) (by kernel_rfl) (by kernel_rfl) .u32 (by kernel_rfl) h0
  have hnot : ∀ (x : Bool) (w : World), (Op.unary .not (.bool x)).run Tryz.prog w = .ok (.bool (!x)) w := fun _ _ => rfl
  go_enter Tryz.func108, Tryz.ntmps108
  go_wp2_with (first | (go_at_call 163; refine (slow_any b f arg R _ hcf h0 h1 f0 f1 hw).mono ?_; rintro e w' ⟨rfl, w1, hR, rfl⟩) | (go_at_call 162; go_in))
  go_end0
  exact ⟨rfl, w1, hR, rfl⟩
end Go.Proofs.YtignjjnflcpiiaaGreatDoor
namespace Go.Proofs.YtignjjnflcpiiaaGreatDoor
open Go.RowKit
set_option maxRecDepth 100000
def rep0 (l : List (UInt8 × List UInt8)) : List AV := [.int .u32 0, .int .i32 0, .int .u32 0, .nili, .ro false 1 (pairRows l)]
def rep1 (l : List (UInt8 × List UInt8)) : List AV := [.int .u32 0, .int .i32 1, .int .u32 0, .nili, .ro false 1 (pairRows l)]
def rep2 (l : List (UInt8 × List UInt8)) : List AV := [.int .u32 0, .int .i32 1, .int .u32 0, .iface 253 (.rptr true (tab l ++ [.ro true 1 (repRows (repl l))])), .nils]
theorem tab_allFr (l : List (UInt8 × List UInt8)) : AV.allFrL (tab l ++ [.ro true 1 (repRows (repl l))]) = true := by
  have key : ∀ q : List AV, (∀ v ∈ q, v.allFr = true) → AV.allFrL q = true := by
    intro q
    induction q with
    | nil => intro _; rfl
    | cons v r ih => intro h; rw [AV.allFrL, h v List.mem_cons_self, ih (fun u hu => h u (List.mem_cons_of_mem _ hu))]
  refine key _ fun v hv => ?_
  rcases List.mem_append.1 hv with h | h
  · obtain ⟨i, _, rfl⟩ := List.mem_map.1 h
    unfold cellAV
    cases look l (UInt8.ofNat i) <;> rfl
  · rw [List.mem_singleton.1 h]; rfl
theorem still_f {N : Nat} {M : Nat → Prop} {b : Nat} (h : Still N M true b) : Still N M false b := ⟨h.1, fun e => by cases e⟩
theorem rep_tabF {w : World} {N : Nat} {M : Nat → Prop} {γ : Nat → Value} {l : List (UInt8 × List UInt8)} {v : Value} (h : Rep w N M γ (.rptr true (tab l ++ [.ro true 1 (repRows (repl l))])) v) : Rep w N M γ (.rptr false (bsr l)) v := by
  obtain ⟨b, o, cs, ⟨h1, h2, h3, h4⟩, rfl⟩ := Rep.rptr_inv h
  have hlen : (bsr l).length = (tab l ++ [AV.ro true 1 (repRows (repl l))]).length := by rw [bsr_length, List.length_append, tab_length]; rfl
  refine .rptr γ false (bsr l) b o cs (still_f h1) (by rw [hlen]; exact h2) (fun j hj => h3 j (by rw [← hlen]; exact hj)) (fun j hj => ?_)
  have hr := h4 j (by rw [← hlen]; exact hj)
  have hrows : ∀ {rows : List (List AV)} {x : Value}, Rep w N M g0 (.ro true 1 rows) x → Rep w N M g0 (.ro false 1 rows) x := fun h => .ro _ _ _ _ _ (RowsAt.mono (fun b o v hk hc => ⟨still_f hk, hc⟩) h.ro_inv)
  by_cases hj2 : j < 256
  · have e1 : (bsr l)[j] = cellF l (UInt8.ofNat j) := by
      simp only [bsr]
      rw [List.getElem_append_left (by rw [tabF_length]; exact hj2)]
      simp [tabF]
    have e2 : (tab l ++ [AV.ro true 1 (repRows (repl l))])[j]'(by rw [← hlen]; exact hj) = cellAV l (UInt8.ofNat j) := by
      rw [List.getElem_append_left (by rw [tab_length]; exact hj2)]
      simp [tab]
    rw [e2] at hr
    rw [e1]
    unfold cellAV at hr
    unfold cellF
    cases hl : look l (UInt8.ofNat j) with
    | none => rw [hl] at hr; exact hr
    | some n => rw [hl] at hr; exact hrows hr
  · have e1 : (bsr l)[j] = .ro false 1 (repRows (repl l)) := by
      simp only [bsr]
      rw [List.getElem_append_right (by rw [tabF_length]; omega)]
      simp
    have e2 : (tab l ++ [AV.ro true 1 (repRows (repl l))])[j]'(by rw [← hlen]; exact hj) = .ro true 1 (repRows (repl l)) := by
      rw [List.getElem_append_right (by rw [tab_length]; omega)]
      simp
    rw [e2] at hr
    rw [e1]
    exact hrows hr
section
attribute [local irreducible] Tri Steps Qd Wr Weak CPure CEff CNew CutN Tree TreeW TreeQ AllB Behind
theorem once_c (l : List (UInt8 × List UInt8)) (hl : l.length ≤ 1000) (h2 : 2 ≤ l.length) (hnew : ∀ p ∈ l, 2 ≤ p.2.length ∧ p.2.length ≤ 1000) :
    CEff gx 109 (.box (rep1 l)) [.ptr 0 0] (some (.box (rep2 l))) (.tup []) := by
  refine ceff_of Tryz.func109 rfl (Nat.le_of_ble_eq_true rfl) (fun w γ hw hM => ?_)
  have B1 := build_c l hl h2 hnew
  have hfr : (AV.iface 253 (.rptr true (tab l ++ [.ro true 1 (repRows (repl l))]))).allFr = true := tab_allFr l
  repeat' (first | refine a_f ?_ | refine st_nil ?_ | refine tri_seq ?_ | refine tri_region rfl ?_ | refine a_draw ?_ | (apply st_r rfl; case hq => first | exact q_call B1 (hcf := Tryz.call164) rfl hfr | exact q_field (off := 3) (by conv => lhs; whnf) (by show fieldB Tryz.prog _ _ _ = true; decide +kernel) | exact q_field (off := 4) (by conv => lhs; whnf) (by show fieldB Tryz.prog _ _ _ = true; decide +kernel) | exact a_q) | (apply st_rif rfl; (case hq => first | exact a_i); all_goals (intro _; try (exfalso; first | omega | contradiction))) | (apply st_rw rfl rfl; case hq => first | exact a_store) | refine tri_true rfl ?_ | refine tri_false rfl ?_ | refine tri_block ?_ | refine tri_skip ?_ | refine tri_ret ?_ | refine tri_exit ?_)
  exact ⟨trivial, rfl, rfl⟩
end
set_option maxHeartbeats 4000000 in
theorem repl_c (l : List (UInt8 × List UInt8)) (hl : l.length ≤ 1000) (h2 : 2 ≤ l.length) (hnew : ∀ p ∈ l, 2 ≤ p.2.length ∧ p.2.length ≤ 1000) (s : List UInt8) (hs : s.length ≤ 1000000) :
    CEff gx 57 (.box (rep0 l)) [.ptr 0 0, .str s] none (.str (subst l s)) := by
  intro w γ vs hn hM hh hlen hr
  obtain ⟨b, c, e, hγ, hb, hsz, hc⟩ := hh.obj 0 _ rfl
  obtain ⟨v0, g0', r0⟩ := hc 0 (by simp [rep0])
  obtain ⟨v1, g1', r1⟩ := hc 1 (by simp [rep0])
  obtain ⟨v2, g2', r2⟩ := hc 2 (by simp [rep0])
  obtain ⟨v3, g3', r3⟩ := hc 3 (by simp [rep0])
  obtain ⟨v4, g4', r4⟩ := hc 4 (by simp [rep0])
  have e0 : v0 = .int .u32 0 := Rep.int_inv r0
  have e1 : v1 = .int .i32 0 := Rep.int_inv r1
  have e2 : v2 = .int .u32 0 := Rep.int_inv r2
  have e3 : v3 = .nilIface := Rep.nili_inv r3
  subst e0 e1 e2 e3
  have hbM : gx.nG ≤ b := hM b (.inl (by rw [hγ]; rfl))
  have hblt : b < w.heap.size := (hh.lt 0 _ b rfl (.inl (by rw [hγ]; rfl))).1
  -- the arguments
  have hvs : vs.toArray = #[.pointer (some ⟨b, 0, none⟩), .string ⟨s.toArray⟩] := by
    match vs, hlen with
    | [x0, x1], _ =>
      obtain ⟨b', q1, q2⟩ := Rep.ptr_inv (hr 0 (by simp) (by simp))
      have q3 := Rep.str_inv (hr 1 (by simp) (by simp))
      simp only [List.getElem_cons_zero, List.getElem_cons_succ] at q2 q3
      rw [hγ] at q1
      injection q1 with q1
      injection q1 with q1
      injection q1 with q1
      rw [q2, q3, ← q1]
  -- the lock is held
  have hcs : c.size = 5 := hsz
  have hb1 : (w.setCell ⟨b, 1, none⟩ (.int .i32 1)).heap[b]? = some (.cells (c.setIfInBounds 1 (.int .i32 1)) e (0, 0)) := heap_setCell_at _ hb
  have hne1 : ∀ k, k ≠ b → (w.setCell ⟨b, 1, none⟩ (.int .i32 1)).heap[k]? = w.heap[k]? := fun k hk => heap_setCell_ne _ _ _ hk
  have hsz1 : (w.setCell ⟨b, 1, none⟩ (.int .i32 1)).heap.size = w.heap.size := by simp [World.setCell]
  have hG1 : gx.G (w.setCell ⟨b, 1, none⟩ (.int .i32 1)) := gx.hG w _ hh.glob (fun k hk => hne1 k (by omega))
  have hc1 : ∀ j, j ≠ 1 → (c.setIfInBounds 1 (.int .i32 1))[j]? = c[j]? := fun j hj => Array.getElem?_setIfInBounds_ne (Ne.symm hj)
  have hos : (w.setCell ⟨b, 1, none⟩ (.int .i32 1)).os = w.os ∧ (w.setCell ⟨b, 1, none⟩ (.int .i32 1)).tape = w.tape ∧ (w.setCell ⟨b, 1, none⟩ (.int .i32 1)).output = w.output := ⟨rfl, rfl, rfl⟩
  have hc10 : (w.setCell ⟨b, 1, none⟩ (.int .i32 1)).heap[b]? = some (.cells (c.setIfInBounds 1 (.int .i32 1)) e (0, 0)) := hb1
  have h00 : w.cell? ⟨b, 0, none⟩ = some (.int .u32 0) := by rw [Lib.cell_of_heap hb]; exact g0'
  have h01 : w.cell? ⟨b, 1, none⟩ = some (.int .i32 0) := by rw [Lib.cell_of_heap hb]; exact g1'
  have hnw : ∀ w1 : World, w1 = w.setCell ⟨b, 1, none⟩ (.int .i32 1) → ∃ (hn1 : gx.nG ≤ w1.heap.size), HR (cxe gx 0 w1 γ hn1 hM) γ (heap1 (some (.box (rep1 l)))) w1 := by
    rintro w1 rfl
    refine ⟨by rw [hsz1]; exact hn, ?_⟩
    exact
    { obj := fun i p h => by
        cases i with
        | zero =>
          cases h
          refine ⟨b, _, e, hγ, hb1, by rw [Array.size_setIfInBounds]; exact hcs, fun j hj => ?_⟩
          match j, hj with
          | 0, _ => exact ⟨_, (hc1 0 (by decide)).trans g0', .int _ _ _⟩
          | 1, _ => exact ⟨_, by rw [Array.getElem?_setIfInBounds_self_of_lt (by omega)], .int _ _ _⟩
          | 2, _ => exact ⟨_, (hc1 2 (by decide)).trans g2', .int _ _ _⟩
          | 3, _ => exact ⟨_, (hc1 3 (by decide)).trans g3', .nili _⟩
          | 4, _ =>
            refine ⟨v4, (hc1 4 (by decide)).trans g4', ?_⟩
            have r4' : Rep w (cxe gx 0 w γ hn hM).N (Mut γ (heap1 (some (.box (rep0 l))))) (fun i => (γ i).1) (.ro false 1 (pairRows l)) v4 := r4
            refine Rep.mono r4' (fun k hk hm => hne1 k (fun e => hm ⟨0, _, rfl, .inl (by rw [hγ, e]; rfl)⟩)) (fun k hk hm => ?_) (by show (w.setCell _ _).heap.size ≤ w.heap.size; rw [hsz1]; exact Nat.le_refl _) _ (fun _ _ => rfl)
            obtain ⟨i, p, q1, q2⟩ := hm
            cases i with
            | zero => exact ⟨0, _, rfl, q2⟩
            | succ i => cases q1
        | succ i => cases h
      disj := fun i i' p p' x h h' _ _ => by
        cases i with
        | zero => cases i' with
          | zero => rfl
          | succ i' => cases h'
        | succ i => cases h
      two := fun i p x h => by
        cases i with
        | zero => exact hh.two 0 _ x rfl
        | succ i => cases h
      lt := fun i p x h hx => by
        cases i with
        | zero => exact ⟨by rw [hsz1]; exact (hh.lt 0 _ x rfl hx).1, .inl hx⟩
        | succ i => cases h
      chg := Chg.refl _ _
      glob := hG1
      pins := fun i p v h h' => by
        cases i with
        | zero => cases h; rfl
        | succ i => cases h' }
  obtain ⟨hn1, hr1⟩ := hnw _ rfl
  have hon := once_c l hl h2 hnew (w.setCell ⟨b, 1, none⟩ (.int .i32 1)) γ [.pointer (some ⟨b, 0, none⟩)] hn1 hM hr1 rfl (fun i hi hi' => by
    match i, hi with
    | 0, _ => exact .ptr _ _ _ _ (by rw [hγ]))
  have hwork : Work 109 (.pointer (some ⟨b, 0, none⟩)) b (w.setCell ⟨b, 1, none⟩ (.int .i32 1)) (fun w' => ∃ γ', HR (cxe gx 0 (w.setCell ⟨b, 1, none⟩ (.int .i32 1)) γ hn1 hM) γ' (heap1 (some (.box (rep2 l)))) w') := by
    refine hon.mono ?_
    rintro x w' ⟨v, γ', rfl, k2, hv⟩
    obtain ⟨xs, hv, hxl, _⟩ := Rep.tup_inv hv
    have hx0 : xs = [] := List.eq_nil_of_length_eq_zero hxl
    subst hx0 hv
    obtain ⟨b', c', e', q1, q2, q3, q4⟩ := k2.obj 0 _ rfl
    have hp := k2.pins 0 (.box (rep2 l)) (γ 0).1 rfl rfl
    rw [q1, hγ] at hp
    injection hp with hp
    injection hp with hp
    injection hp with hp
    subst hp
    obtain ⟨u0, p0, t0⟩ := q4 0 (by simp [rep2])
    obtain ⟨u1, p1, t1⟩ := q4 1 (by simp [rep2])
    have := Rep.int_inv t0
    have := Rep.int_inv t1
    subst u0 u1
    exact ⟨rfl, ⟨γ', k2⟩, by rw [Lib.cell_of_heap q2]; exact p0, by rw [Lib.cell_of_heap q2]; exact p1, Lib.frozen_of_heap q2 0, Lib.frozen_of_heap q2 1⟩
  have hdo := do_any b 109 (.pointer (some ⟨b, 0, none⟩)) _ w Tryz.call109 h00 h01 (Lib.frozen_of_heap hb 0) (Lib.frozen_of_heap hb 1) hwork
  rw [hvs]
  show Calls Tryz.prog _ _ _ _
  have hfinal : ∀ w2 : World, (∃ γ', HR (cxe gx 0 (w.setCell ⟨b, 1, none⟩ (.int .i32 1)) γ hn1 hM) γ' (heap1 (some (.box (rep2 l)))) w2) → ∃ tv, w2.cell? ⟨b, 3, none⟩ = some (.iface 253 (.pointer (some tv))) ∧
      ∀ W : World, W.heap = ((w2.setCell ⟨b, 0, none⟩ (.int .u32 1)).setCell ⟨b, 1, none⟩ (.int .i32 0)).heap → W.os = w2.os → W.tape = w2.tape → W.output = w2.output →
      Calls Tryz.prog 283 #[.pointer (some tv), .string ⟨s.toArray⟩] W (fun e w' => e = .returned (.string ⟨(subst l s).toArray⟩) ∧ Chg (Blk γ 0) w w') := by
    rintro w2 ⟨γ', k2⟩
    obtain ⟨b', c', e', q1, q2, q3, q4⟩ := k2.obj 0 _ rfl
    have hp := k2.pins 0 (.box (rep2 l)) (γ 0).1 rfl rfl
    rw [q1, hγ] at hp
    injection hp with hp
    injection hp with hp
    injection hp with hp
    subst hp
    obtain ⟨v3, p3, t3⟩ := q4 3 (by simp [rep2])
    obtain ⟨y, rfl, t4⟩ := Rep.iface_inv t3
    obtain ⟨bt, ot, cs, hcs, rfl⟩ := Rep.rptr_inv t4
    refine ⟨⟨bt, ot, none⟩, by rw [Lib.cell_of_heap q2]; exact p3, fun W h1 h2 h3 h4 => ?_⟩
    have hWh : ∀ k, k ≠ b' → W.heap[k]? = w2.heap[k]? := fun k hk => by rw [h1, heap_setCell_ne _ _ _ hk, heap_setCell_ne _ _ _ hk]
    have hWs : W.heap.size = w2.heap.size := by rw [h1]; simp [World.setCell]
    have hcg : Chg (Blk γ 0) w W := by
      refine ⟨h2.trans ?_, h3.trans ?_, h4.trans ?_, ?_, fun k hk hm => ?_⟩
      · exact k2.chg.os
      · exact k2.chg.tape
      · exact k2.chg.output
      · have := k2.chg.size
        rw [hWs, ← hsz1]; exact this
      · have hkb : k ≠ b' := fun e => hm (.inl (by rw [hγ, e]; rfl))
        rw [hWh k hkb, ← hne1 k hkb]
        exact k2.chg.block k (by show k < (w.setCell _ _).heap.size; rw [hsz1]; exact hk) hm
    have hGW : gx.G W := gx.hG w W hh.glob (fun k hk => hcg.block k (Nat.lt_of_lt_of_le hk hn) (fun hm => by have := hM k hm; omega))
    have hcall := brep_c l hl hnew s hs W [.pointer (some ⟨bt, ot, none⟩), .string ⟨s.toArray⟩] hGW (Nat.le_trans hn hcg.size) rfl (fun i hi hi' => by
      match i, hi with
      | 0, _ =>
        exact rep_tabF (t4.mono (N' := 0) (M' := fun _ => False) (fun k hk hm => hWh k (fun e => hm ⟨0, _, rfl, .inl (by rw [q1, e]; rfl)⟩)) (fun _ _ h => h.elim) (Nat.zero_le _) g0 (fun t ht => by cases ht))
      | 1, _ => exact .str _ _)
    refine hcall.mono ?_
    rintro x w' ⟨v, rfl, he, hv⟩
    rw [Rep.str_inv hv]
    exact ⟨rfl, hcg.trans (chgOf he (fun _ => False)) (fun _ _ x => x.elim)⟩
  go_enter Tryz.func57, Tryz.ntmps57
  go_wp2_with (go_at_call 108; refine hdo.mono ?_; rintro e w' ⟨rfl, w2, hR, rfl⟩; obtain ⟨tv, ht1, ht2⟩ := hfinal w2 hR)
  go_at_call 283
  refine (ht2 ((w2.setCell ⟨b, 0, none⟩ (.int .u32 1)).setCell ⟨b, 1, none⟩ (.int .i32 0)).drew rfl rfl rfl rfl).mono ?_
  rintro e w' ⟨rfl, hcg⟩
  go_wp2
  go_ret
  refine ⟨_, γ, rfl, ?_, .str _ _⟩
  exact
    { obj := fun i p h => by cases i <;> cases h
      disj := fun i i' p p' x h h' _ _ => by cases i <;> cases h
      two := fun i p x h => by cases i <;> cases h
      lt := fun i p x h hx => by cases i <;> cases h
      chg := hcg
      glob := gx.hG w w' hh.glob (fun k hk => hcg.block k (Nat.lt_of_lt_of_le hk hn) (fun hm => by have := hM k hm; omega))
      pins := fun i p v h h' => by cases i <;> cases h' }
end Go.Proofs.YtignjjnflcpiiaaGreatDoor
