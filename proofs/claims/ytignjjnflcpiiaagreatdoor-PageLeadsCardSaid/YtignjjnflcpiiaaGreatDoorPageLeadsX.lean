/- PageLeads: the tied card of the full form. -/
import Derived.Test.YtignjjnflcpiiaaGreatDoorCards
import Derived.Test.YtignjjnflcpiiaaGreatDoorTie
import Derived.WalkKit
import Derived.ProofKit
import Derived.OpenShut
import Derived.Lay
import Derived.Deep.DeepWitnessRowRef
import Derived.Deep.DeepHandedRow
import Derived.ChangeMaps5
import Derived.LaidHandle
import Derived.Lib.LaidU8
import Derived.Lib.DecodeN
import Derived.Shelf.Vars
import Derived.Carry
import Derived.SizedLaws
import Derived.Test.YtignjjnflcpiiaaGreatDoorOpen
import Derived.Test.YtignjjnflcpiiaaGreatDoorPl3
import Derived.Test.YtignjjnflcpiiaaGreatDoorSigns
set_option linter.unusedVariables false
set_option linter.unusedSimpArgs false
set_option maxHeartbeats 1000000
namespace Go.Proofs.YtignjjnflcpiiaaGreatDoor.pageLeads
open Go.ChangeShapes Go.WideShapes Go.ChangeAt Go.ChangeMaps Go.RowKit

theorem own : ownKnob Tryz.prog.godebug = none := by kernel_rfl
theorem laidOut : laidOutB Tryz.prog = true := by kernel_rfl
theorem maxInt (W : World) (h : W.ShapedOpen Tryz.prog) : ∃ m, W.cell? ⟨4, 0, none⟩ = some (.int .i64 m) :=
  cell_of_shapedOpen_int h (of_decide_eq_true (by kernel_rfl)) (zero := #[.int .i64 0]) (t := 3) (by kernel_rfl) rfl (by kernel_rfl) (by kernel_rfl) Tryz.underlying3
theorem et : Tryz.prog.globalNamed "errors.errorType" = some 2 := by kernel_rfl
theorem rt : (Tryz.prog.cutTypes.find? (·.1 == "internal/reflectlite.rtype")).map (·.2) = some 200 := by kernel_rfl
theorem oneRow : ((List.range 349).filter fun t => Tryz.prog.rowNamed t [101, 114, 114, 111, 114]) = [32] := by kernel_rfl
theorem size : Tryz.prog.types.size = 349 := by kernel_rfl

theorem errVar {W : World} (h : laidMetH Tryz.prog Rows.pageLeadsRow.laid W) : ErrVar W := by
  have h' : handlesMet Tryz.prog [("errors.errorType", Rows.laid_errors_errorType)] W := (show laidMet Tryz.prog _ W ∧ handlesMet Tryz.prog [("errors.errorType", Rows.laid_errors_errorType)] W from h).2
  obtain ⟨name, u, ty, e1, e2, e3, e4, e5⟩ := h' _ (List.mem_singleton.2 rfl)
  have en : name = [101, 114, 114, 111, 114] := (Option.some.inj e1).symm
  subst en
  obtain rfl := Option.some.inj (rt.symm.trans e2)
  have hm : ty ∈ (List.range 349).filter fun t => Tryz.prog.rowNamed t [101, 114, 114, 111, 114] := List.mem_filter.2 ⟨List.mem_range.2 (by rw [← size]; exact e3), e4⟩
  rw [oneRow] at hm
  obtain rfl := List.mem_singleton.1 hm
  have hh : typeHandle Tryz.prog 32 = hdl 32 := by kernel_rfl
  rw [hh] at e5
  have e6 := World.var?_cell et e5 0
  show W.cell? ⟨2, 0, none⟩ = some (rty 32)
  simpa using e6

theorem signVar {W : World} (h : laidMetH Tryz.prog Rows.pageLeadsRow.laid W) : SignVar W := signs_row h (by kernel_rfl)
theorem gOk {W : World} (hsh : W.ShapedOpen Tryz.prog) (h : laidMetH Tryz.prog Rows.pageLeadsRow.laid W) : (GOk W ∧ SignVar W) ∧ ErrVar W := ⟨⟨⟨maxInt W hsh⟩, signVar h⟩, errVar h⟩
theorem nG {W : World} (hsh : W.ShapedOpen Tryz.prog) : gxt.nG ≤ W.heap.size := by
  obtain ⟨o, _, h, _⟩ := hsh.2 10 (of_decide_eq_true (by kernel_rfl)) (of_decide_eq_true (by kernel_rfl))
  exact Nat.le_of_lt (Array.getElem?_eq_some_iff.1 h).1

set_option maxRecDepth 100000 in
theorem contract (H : Type) (enc : TypeId × Value → H) (F : Stop.Interp) (W : World) (base : Nat) (args : Array Value) (ds gs : List (DataW H)) (before : List MemPlace)
    (hval : ∀ (j : Nat) t v, Tryz.f8.params[j]? = some t → args[j]? = some v → Value.okWide Tryz.prog W .any base t v)
    (hW : DataW.Whole enc Tryz.prog Tryz.f8.params.toList Rows.pageLeadsSpec.vars false W args.toList ds gs before) (hsz : (DataW.weightsEach Tryz.prog (Tryz.f8.params.toList ++ (OpenSpec.ofChange Rows.pageLeadsSpec).bare.plain.varTypes Tryz.prog) (ds ++ gs)).all (· ≤ reachBytes) = true) (hsh : W.ShapedOpen Tryz.prog) (hL : laidMetH Tryz.prog Rows.pageLeadsRow.laid W) :
    Calls Tryz.prog 8 args W fun e W' => ∃ v, e = .returned v ∧ ((OpenSpec.ofChange Rows.pageLeadsSpec).at F).post enc Tryz.prog Tryz.f8 false true false false W args v W' := by
  have hW' := hW
  obtain ⟨p, q, hA0, hV, rfl, hfz, hnd⟩ := hW
  have hA : DataW.TrodAll enc Tryz.prog W 0 (fun _ => true) true Tryz.f8.params.toList args.toList ds p := hA0
  have hwt : ∀ (j : Nat) (t : TypeId) (d : DataW H), (Tryz.f8.params.toList ++ (OpenSpec.ofChange Rows.pageLeadsSpec).bare.plain.varTypes Tryz.prog)[j]? = some t → (ds ++ gs)[j]? = some d → ∀ x ∈ d.weights Tryz.prog t, x ≤ reachBytes := fun j t d ht hd x hx => by
    have := List.all_eq_true.1 hsz x (DataW.weights_mem_each ht hd x hx)
    simpa using this
  rw [Tryz.params8] at hA hval hwt
  obtain ⟨v0, v1, d0, d1, p0, p1, rfl, rfl, rfl, h0, h1⟩ := trodAll_two hA
  obtain ⟨rfl, rfl⟩ := trodVars_none hV
  obtain ⟨b0, rfl, rfl, rfl, hb0⟩ := open_string Tryz.underlying9 (hval 0 9 v0 rfl rfl) h0
  obtain ⟨l1, hrep1, hz1⟩ := open_texts (P := Tryz.prog) Tryz.underlying43 Tryz.underlying9 (by kernel_rfl) (of_decide_eq_true (by kernel_rfl)) (hval 1 43 v1 rfl rfl) h1
  clear hA0
  simp only [List.append_nil, List.nil_append] at hW'
  have hlt : ∀ x ∈ p1, x.block < W.heap.size := fun x hx => hW'.lt x hx
  have hG := gOk hsh hL
  have hz0 : b0.data.toList.length ≤ 140737488351232 := hwt 0 _ _ rfl rfl _ (by simp [DataW.weights])
  have hz1 := hz1 (hwt 1 _ _ rfl rfl)
  have walk : Calls Tryz.prog 8 #[.string b0, v1] W fun e w' => e = .returned (.bool true) ∧ Below W.heap.size W w' := by
    have h := pageLeads_c b0.data.toList l1 hz0 hz1.1 hz1.2 W [.string b0, v1] hG (nG hsh) rfl (fun i hi hi' => by
      match i, hi with
      | 0, _ => exact .strB b0
      | 1, _ => exact hrep1)
    refine h.mono ?_
    rintro e w' ⟨v, rfl, h1, h2⟩
    rw [h2.bool_inv]
    exact ⟨rfl, h1⟩
  refine walk.mono fun e W' ⟨he, hg⟩ => ?_
  subst he
  have e1 : ((OpenSpec.ofChange Rows.pageLeadsSpec).at F).fn H ([.lit (.string b0.data.toList), d1] ++ []) = { results := [.lit (.bool true)], args := [.lit (.string b0.data.toList), d1] } := rfl
  refine ⟨_, rfl, _, _, _, [], p1, [], hW', ?_, ?_, ?_, hg.frame _, fun h => by cases h⟩
  · rw [e1]; exact trodAll_mk1 (shut_bool Tryz.underlying4 true)
  · rw [e1]; have hm := trodAll_mk2 (shut_string Tryz.underlying9 hb0) (Below.trod laidOut (by kernel_rfl) (of_decide_eq_true (by kernel_rfl)) h1 hg (fun x hx => hlt x (by simp [hx]))); simpa using hm
  · rw [e1]; rfl

/-- A WORLD FOR THE WITNESS: the settled one, the variables holding what their initialisers lay. -/
noncomputable def laidWorld (os : Os) : World :=
  let w0 := World.holding Tryz.prog os ⟨#[], #[], []⟩
  let put (h : Array Obj) (g : Nat) (cs : Array Value) : Array Obj := h.modify g fun
    | .cells _ t frozen => .cells cs t frozen
    | o => o
  let h1 := put w0.heap 5 (Lib.firstTab.map fun z => Value.int .u8 z).toArray
  let h2 := put h1 6 ((List.range 16).flatMap fun i => [Value.int .u8 (Lib.accLo i), Value.int .u8 (Lib.accHi i)]).toArray
  let h3 := put h2 2 #[rty 32]
  let h4 := put h3 0 (signL.flatMap fun p => [Value.string ⟨p.1.toArray⟩, Value.string ⟨p.2.toArray⟩]).toArray
  { w0 with heap := h4 }
theorem laid_met (os : Os) : laidMetH Tryz.prog Rows.pageLeadsRow.laid ((laidWorld os).forCall (fun _ _ => 0) ⟨#[], #[.string ⟨#[]⟩, .slice none 0 0], []⟩).memory :=
  laidMetH_of_parts (laidMet_of_run' 8 (by kernel_rfl) (by kernel_rfl)) (by kernel_rfl)
theorem reads (os : Os) {H : Type} (enc : TypeId × Value → H) : ∃ places, DataW.whole enc Tryz.prog ((laidWorld os).forCall (fun _ _ => 0) ⟨#[], #[.string ⟨#[]⟩, .slice none 0 0], []⟩).memory Tryz.f8.params.toList Rows.pageLeadsSpec.vars false #[.string ⟨#[]⟩, .slice none 0 0].toList 8 = some ([.lit (.string []), .nil], [], places) :=
  ⟨[], by kernel_rfl⟩

set_option maxRecDepth 100000 in
theorem lifted (os : Os) (started : os.Started) (H : Type) (enc : TypeId × Value → H) (F : Stop.Interp) :
    ReturnsInHanded {} Tryz.checked os 8 .any ((OpenSpec.ofChange Rows.pageLeadsSpec).preRow enc Tryz.prog Tryz.f8 Rows.pageLeadsRow.domain false Rows.pageLeadsRow.laid) (((OpenSpec.ofChange Rows.pageLeadsSpec).at F).post enc Tryz.prog Tryz.f8 false true false false) := by
  obtain ⟨places, hx⟩ := reads os enc
  refine returnsInHanded_of_row (C := Tryz.checked) (s := OpenSpec.ofChange Rows.pageLeadsSpec) own started (by kernel_rfl) Tryz.func8
    (witness_row_at (enc := enc) (C := Tryz.checked) false (laidWorld os) #[.string ⟨#[]⟩, .slice none 0 0] rfl (by kernel_rfl) (by kernel_rfl) (by kernel_rfl)
      (OpenSpec.preRow_of_cond 8 hx (by kernel_rfl) (fun k hk => by cases hk) (by kernel_rfl) (laid_met os))) ?_
  intro W base args ds gs before hval hW _ _ hsz hL hsh _
  exact contract H enc F W base args ds gs before hval hW hsz hsh hL

theorem said : Rows.PageLeadsSaid :=
  OpenClaim.holds_of_cond 8 Tryz.f8 rfl rfl rfl rfl rfl rfl rfl ⟨rfl, rfl, rfl, rfl, rfl⟩ rfl rfl rfl rfl rfl (by kernel_rfl) Tryz.func8 (by kernel_rfl)
    (of_decide_eq_true (by kernel_rfl)) (by unfold Func.isWrapper; first | (rw [if_pos (by decide +kernel)]; kernel_rfl) | (rw [if_neg (by decide +kernel)]; exact ⟨rfl, rfl⟩))
    (fun os started H enc _ F => by rw [OpenClaim.pre_eq_preRow]; exact lifted os started H enc F)

theorem plain (f : FuncId) (fn : Func) (hf : Tryz.pinned.checked.prog.funcNamed "bindery/binderylaw.PageLeads" = some f) (hfn : Tryz.pinned.checked.prog.funcs[f]? = some fn) :
    true = Tryz.pinned.checked.prog.looks [] ∧ ∀ (j : Nat) t, fn.params[j]? = some t → Tryz.pinned.checked.prog.wantsStandIn t = false := by
  obtain rfl : f = 8 := Option.some.inj ((show Tryz.prog.funcNamed "bindery/binderylaw.PageLeads" = some 8 by kernel_rfl).symm.trans hf) |>.symm
  obtain rfl : fn = Tryz.f8 := (Option.some.inj (Tryz.func8.symm.trans hfn)).symm
  refine ⟨by kernel_rfl, fun j t ht => ?_⟩
  rw [Tryz.params8] at ht
  match j, ht with
  | 0, ht =>
    obtain rfl : t = 9 := by simpa using ht.symm
    exact (show Tryz.prog.wantsStandIn 9 = false by kernel_rfl)
  | 1, ht =>
    obtain rfl : t = 43 := by simpa using ht.symm
    exact (show Tryz.prog.wantsStandIn 43 = false by kernel_rfl)
  | j + 2, ht => simp at ht

theorem card : Rows.PageLeadsCardSaid :=
  Claim7.holds_tied_plain_at .later [] _ _ _ _ said (fun _ h => by cases h) (by kernel_rfl) (fun _ h => by cases h) pageLeads_row_tie rfl ⟨rfl, rfl⟩ (by kernel_rfl) rfl plain (by kernel_rfl)
end Go.Proofs.YtignjjnflcpiiaaGreatDoor.pageLeads
