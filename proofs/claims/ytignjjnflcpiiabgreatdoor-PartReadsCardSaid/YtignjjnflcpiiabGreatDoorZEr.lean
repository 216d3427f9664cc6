import Derived.Test.YtignjjnflcpiiabGreatDoorProg
import Derived.WalkKit
import Derived.WalkLawsBesides
import Derived.WalkSpells
import Derived.Lib.Strings
import Derived.Lib.UnsafeStr
import Derived.Lib.BufferRead
import Derived.Lib.TrimByte
import Derived.Lib.IndexBytes
import Derived.LaidEql
import Derived.Stop.Asserts
import Derived.RowKitTokens
import Derived.Below
import Derived.Handy
set_option linter.unusedVariables false
set_option linter.unusedSimpArgs false
set_option maxHeartbeats 1000000
namespace Go.Proofs.YtignjjnflcpiiabGreatDoor
open Go.RowKit
theorem hid {p : Prop} (h : p) : Hid p := h
abbrev ByT : TypeId := 5
theorem infoByte : (Tryz.prog.info? 5).map (fun i => (i.zero, i.size, i.bytes)) = some (some (.int .u8 0), 1, 1) := by kernel_rfl
theorem i64_join (i : Nat) (x y : Int) (h1 : 0 ≤ x) (h2 : x % 2 ^ i = 0) (h3 : x < 2 ^ 62) (h4 : 0 ≤ y) (h5 : y < 2 ^ i) (h6 : y < 2 ^ 62) : bits .or .i64 x y = x + y :=
  bits_join .i64 62 (by decide) (fun n h0 h1 => IntWalk.i64_in n (by omega)) i x y h1 h2 h3 h4 h5 h6
theorem i64_mask (i : Nat) (hi : i ≤ 62) (x : Int) (h1 : 0 ≤ x) (h3 : x < 2 ^ 62) : bits .and .i64 x (2 ^ i - 1) = x % 2 ^ i :=
  bits_mask .i64 62 (by decide) (fun n h0 h1 => IntWalk.i64_in n (by omega)) i hi x h1 h3
theorem conv_own {B : Nat} {v : Value} {l : List UInt8} {w : World} (h : w.ownsRow B ByT 1 v l.length (Lib.byteCells l)) :
    (convert 80 9 v).run Tryz.prog w = .ok (.string ⟨l.toArray⟩) w := by
  rcases h.2 with ⟨rfl, h0⟩ | ⟨g, cap, cur, rfl, _, hg, _, _, _, htk⟩
  · obtain rfl : l = [] := List.eq_nil_of_length_eq_zero h0
    exact Lib.run_convert_nil_bytes w _ _ ByT 0 Tryz.underlying80 Tryz.underlying5 Tryz.underlying9
  · exact run_convert_bytes_back w _ _ ByT _ cap l Tryz.underlying80 Tryz.underlying5 Tryz.underlying9 (Lib.bytes_of_row hg (by simpa using htk))
end Go.Proofs.YtignjjnflcpiiabGreatDoor
namespace Go.Proofs.YtignjjnflcpiiabGreatDoor
open Go.RowKit Go.Extern.Stop Go.Stop Go.Extern
abbrev hdl (n : Nat) : Value := .pointer (some ⟨6, n, none⟩)
abbrev rty (n : Nat) : Value := .iface 148 (.agg #[hdl n])
abbrev val (n : Nat) (a : Addr) (f : Int) : Value := .agg #[hdl n, .pointer (some a), .int .u64 f]
theorem valueOfP (t : Addr) (w : World) : (ReflectliteValue.unpack (.iface 93 (.pointer (some t)))).run Tryz.prog w
    = .ok (val 93 ⟨w.heap.size, 0, none⟩ 150) (w.alloc (.cells #[.pointer (some t)] 93)) := by kernel_rfl
theorem typeP (a : Addr) (w : World) : (ReflectliteValue.methodAny (ReflectliteValue.valueError "reflectlite.Value.Type" 0) (fun t _ _ _ => ReflectliteType.toType t) #[val 93 a 150]).run Tryz.prog w
    = .ok (rty 93) w := by kernel_rfl
theorem methodKind (h : Value) (w : World) : (Go.method 316 148 (.agg #[h]) "Kind").run Tryz.prog w = .ok (147, h) w := by kernel_rfl
theorem kindP (w : World) : ((ReflectliteType.abiMethod fun t => (fun a : Nat => Value.int IntKind.u8 (a : Int)) <$> Rtype.kind t) #[hdl 93]).run Tryz.prog w = .ok (.int .u8 22) w := by kernel_rfl
theorem kindE (w : World) : ((ReflectliteType.abiMethod fun t => (fun a : Nat => Value.int IntKind.u8 (a : Int)) <$> Rtype.kind t) #[hdl 26]).run Tryz.prog w = .ok (.int .u8 2) w := by kernel_rfl
theorem rlm (z : Sem Value) (f : TypeId → Addr → Nat → Nat → Sem Value) (v : Value) :
    ReflectliteValue.method z f #[v] = (do match ← ReflectliteValue.parts v with | none => z | some (t, a, fl) => f t a fl (fl % 32)) := rfl
theorem partsP (a : Addr) (w : World) : (ReflectliteValue.parts (val 93 a 150)).run Tryz.prog w = .ok (some (93, a, 150)) w := by kernel_rfl
theorem isNilP (a p : Addr) (W : World) (ha : W.cell? a = some (.pointer (some p))) :
    (ReflectliteValue.method (ReflectliteValue.valueError "reflectlite.Value.IsNil" 0) ReflectliteValue.isNil #[val 93 a 150]).run Tryz.prog W = .ok (.bool false) W := by
  rw [rlm]
  simp only [Sem.run_bind, partsP, Result.andThen]
  simp [ReflectliteValue.isNil, loadVar, isAgg, underlying, Tryz.underlying93, ha, Result.andThen]
theorem methodElem (h : Value) (w : World) : (Go.method 316 148 (.agg #[h]) "Elem").run Tryz.prog w = .ok (160, .agg #[h]) w := by kernel_rfl
theorem methodImplements (h : Value) (w : World) : (Go.method 316 148 (.agg #[h]) "Implements").run Tryz.prog w = .ok (161, .agg #[h]) w := by kernel_rfl
theorem methodAssignableTo (h : Value) (w : World) : (Go.method 316 148 (.agg #[h]) "AssignableTo").run Tryz.prog w = .ok (158, .agg #[h]) w := by kernel_rfl
theorem methodUnwrap (h : Value) (w : World) : (Go.method 316 88 h "Unwrap").run Tryz.prog w = .ok (152, h) w := by kernel_rfl
theorem elemP (w : World) : (ReflectliteType.method ReflectliteType.elem #[.agg #[hdl 93]]).run Tryz.prog w = .ok (rty 26) w := by kernel_rfl
theorem implementsE (w : World) : (ReflectliteType.relation "Implements" ReflectliteType.implements_ #[.agg #[hdl 26], rty 30]).run Tryz.prog w = .ok (.bool true) w := by kernel_rfl
theorem typeOfE (v : Value) (w : World) : (ReflectliteType.typeOf #[.iface 26 v]).run Tryz.prog w = .ok (rty 26) w := by kernel_rfl
theorem typeOfA (v : Value) (w : World) : (ReflectliteType.typeOf #[.iface 88 v]).run Tryz.prog w = .ok (rty 88) w := by kernel_rfl
theorem assignableE (w : World) : (ReflectliteType.relation "AssignableTo" ReflectliteType.assignableTo #[.agg #[hdl 26], rty 26]).run Tryz.prog w = .ok (.bool true) w := by kernel_rfl
theorem assignableA (w : World) : (ReflectliteType.relation "AssignableTo" ReflectliteType.assignableTo #[.agg #[hdl 88], rty 26]).run Tryz.prog w = .ok (.bool false) w := by kernel_rfl
theorem valueOfE (k : Int) (w : World) : (ReflectliteValue.unpack (.iface 26 (.int .i64 k))).run Tryz.prog w
    = .ok (val 26 ⟨w.heap.size, 0, none⟩ 130) (w.alloc (.cells #[.int .i64 k] 26)) := by kernel_rfl
theorem elemOfP (w : World) : (Rtype.elem? 93).run Tryz.prog w = .ok (some 26) w := by kernel_rfl
theorem mkE (p : Addr) (w : World) : (ReflectliteValue.mk 26 p ReflectliteValue.flagAddr).run Tryz.prog w = .ok (val 26 p 386) w := by kernel_rfl
theorem elemV (a p : Addr) (W : World) (ha : W.cell? a = some (.pointer (some p))) :
    (ReflectliteValue.method (ReflectliteValue.valueError "reflectlite.Value.Elem" 0) ReflectliteValue.elem #[val 93 a 150]).run Tryz.prog W
      = .ok (val 26 p 386) W := by
  rw [rlm]
  simp only [Sem.run_bind, partsP, Result.andThen]
  simp [ReflectliteValue.elem, loadVar, isAgg, underlying, Tryz.underlying93, ha, Result.andThen, elemOfP, mkE]
theorem rls (v x : Value) : ReflectliteValue.set #[v, x] = (do
    let (some (dst, a, fl), some (src, b, _)) := (← ReflectliteValue.parts v, ← ReflectliteValue.parts x)
      | unsupported (.noEntry "extern/(internal/reflectlite.Value).Set.zeroValue")
    if fl / ReflectliteValue.flagAddr % 2 == 0 then unsupported (.noEntry "extern/(internal/reflectlite.Value).Set.unaddressable")
    let val ← loadVar src b
    if ← Rtype.directlyAssignable dst src then storeVar dst a val
    else if ← Rtype.implements dst src then
      if (← Rtype.kind src) == 20 then
        match val with
        | .nilIface => unsupported (.noEntry "extern/reflectlite: a nil value of one interface type handed on as a value of another")
        | _ => storeVar dst a val
      else storeVar dst a (.iface src val)
    else panicString ("reflectlite.Set: value of type " ++ (← Rtype.spelt src) ++ " is not assignable to type " ++ (← Rtype.spelt dst))
    pure (.tuple #[])) := rfl
theorem partsEa (a : Addr) (w : World) : (ReflectliteValue.parts (val 26 a 386)).run Tryz.prog w = .ok (some (26, a, 386)) w := by kernel_rfl
theorem partsE (a : Addr) (w : World) : (ReflectliteValue.parts (val 26 a 130)).run Tryz.prog w = .ok (some (26, a, 130)) w := by kernel_rfl
theorem directE (w : World) : (Rtype.directlyAssignable 26 26).run Tryz.prog w = .ok true w := by kernel_rfl
theorem setE (ta b : Addr) (k : Int) (old : Value) (W : World) (hb : W.cell? b = some (.int .i64 k)) (ht : W.cell? ta = some old) (hf : W.frozen? ta = false) :
    (ReflectliteValue.set #[val 26 ta 386, val 26 b 130]).run Tryz.prog W
      = .ok (.tuple #[]) (W.setCell ta (.int .i64 k)) := by
  rw [rls]
  simp only [Sem.run_bind, partsEa, partsE, Result.andThen]
  simp [ReflectliteValue.flagAddr, loadVar, isAgg, underlying, Tryz.underlying26, hb, Result.andThen, directE, storeVar, Value.cells, storeCells, Addr.add]
  rw [run_store Tryz.prog W ta _ _ (by rfl)]
  simp [ht, hf]
theorem noAsA (v : Value) (xT : TypeId) (w : World) : (Instr.typeAssert (.iface 88 v) xT 153 true).run Tryz.prog w = .ok (.tuple #[.nilIface, .bool false]) w := run_typeAssert_lacksB Tryz.underlying153 (by kernel_rfl) (by kernel_rfl) v xT w
theorem hasUnA (v : Value) (xT : TypeId) (w : World) : (Instr.typeAssert (.iface 88 v) xT 100 true).run Tryz.prog w = .ok (.tuple #[.iface 88 v, .bool true]) w := run_typeAssert_hasB Tryz.underlying100 (by kernel_rfl) v xT w
theorem noUnE (v : Value) (xT : TypeId) (w : World) : (Instr.typeAssert (.iface 26 v) xT 100 true).run Tryz.prog w = .ok (.tuple #[.nilIface, .bool false]) w := run_typeAssert_lacksB Tryz.underlying100 (by kernel_rfl) (by kernel_rfl) v xT w
end Go.Proofs.YtignjjnflcpiiabGreatDoor
namespace Go.Proofs.YtignjjnflcpiiabGreatDoor
open Go.RowKit Go.Extern.Stop Go.Stop Go.Extern
abbrev asW (t : Addr) (w : World) : World := ((w.alloc (.cells #[.pointer (some t)] 93)).alloc (.cells #[hdl 93, .pointer (some ⟨w.heap.size, 0, none⟩), .int .u64 150] 126)).alloc (.cells #[hdl 93, .pointer (some ⟨w.heap.size, 0, none⟩), .int .u64 150] 126)
set_option maxHeartbeats 4000000 in
theorem as_errno (k : Int) (t : Addr) (old : Value) (w : World) (hg : w.cell? ⟨1, 0, none⟩ = some (rty 30)) (ht0 : w.cell? t = some old) (hf0 : w.frozen? t = false) :
    Calls Tryz.prog 44 #[.iface 26 (.int .i64 k), .iface 93 (.pointer (some t))] w fun ev w' => ev = .returned (.bool true) ∧ w' = ((asW t w).alloc (.cells #[.int .i64 k] 26)).setCell t (.int .i64 k) := by
  have xValueOf := @run_callFunc_extern Tryz.prog 74 _ (fun args => ReflectliteValue.unpack (args.getD 0 (.tuple #[]))) Tryz.func74 (by kernel_rfl) (by kernel_rfl) (by kernel_rfl) (by kernel_rfl)
  have xType := @run_callFunc_extern Tryz.prog 75 _ (ReflectliteValue.methodAny (ReflectliteValue.valueError "reflectlite.Value.Type" 0) (fun t _ _ _ => ReflectliteType.toType t)) Tryz.func75 (by kernel_rfl) (by kernel_rfl) (by kernel_rfl) (by kernel_rfl)
  have xIsNil := @run_callFunc_extern Tryz.prog 76 _ (ReflectliteValue.method (ReflectliteValue.valueError "reflectlite.Value.IsNil" 0) ReflectliteValue.isNil) Tryz.func76 (by kernel_rfl) (by kernel_rfl) (by kernel_rfl) (by kernel_rfl)
  have xKind := @run_callFunc_extern Tryz.prog 147 _ (ReflectliteType.abiMethod fun t => do pure (.int .u8 (← Rtype.kind t))) Tryz.func147 (by kernel_rfl) (by kernel_rfl) (by kernel_rfl) (by kernel_rfl)
  have xElem := @run_callFunc_extern Tryz.prog 160 _ (ReflectliteType.method ReflectliteType.elem) Tryz.func160 (by kernel_rfl) (by kernel_rfl) (by kernel_rfl) (by kernel_rfl)
  have xImplements := @run_callFunc_extern Tryz.prog 161 _ (ReflectliteType.relation "Implements" ReflectliteType.implements_) Tryz.func161 (by kernel_rfl) (by kernel_rfl) (by kernel_rfl) (by kernel_rfl)
  have xTypeOf := @run_callFunc_extern Tryz.prog 104 _ ReflectliteType.typeOf Tryz.func104 (by kernel_rfl) (by kernel_rfl) (by kernel_rfl) (by kernel_rfl)
  have xAssignableTo := @run_callFunc_extern Tryz.prog 158 _ (ReflectliteType.relation "AssignableTo" ReflectliteType.assignableTo) Tryz.func158 (by kernel_rfl) (by kernel_rfl) (by kernel_rfl) (by kernel_rfl)
  have xVElem := @run_callFunc_extern Tryz.prog 105 _ (ReflectliteValue.method (ReflectliteValue.valueError "reflectlite.Value.Elem" 0) ReflectliteValue.elem) Tryz.func105 (by kernel_rfl) (by kernel_rfl) (by kernel_rfl) (by kernel_rfl)
  have xSet := @run_callFunc_extern Tryz.prog 106 _ ReflectliteValue.set Tryz.func106 (by kernel_rfl) (by kernel_rfl) (by kernel_rfl) (by kernel_rfl)
  have tOE := typeOfE
  have tOA := typeOfA
  have mA := methodAssignableTo
  have aE := assignableE
  have aA := assignableA
  have vE := valueOfE
  have vP := valueOfP
  have tP := typeP
  have mK := methodKind
  have mE := methodElem
  have mI := methodImplements
  have mU := methodUnwrap
  have nA := noAsA
  have hU := hasUnA
  have nU := noUnE
  have kP := kindP
  have kE := kindE
  have eP := elemP
  have iE := implementsE
  have nP := isNilP ⟨w.heap.size, 0, none⟩ t ((w.alloc (.cells #[.pointer (some t)] 93)).alloc (.cells #[hdl 93, .pointer (some ⟨w.heap.size, 0, none⟩), .int .u64 150] 126)) (by simp)
  have hlt : 1 < w.heap.size := by
    rcases Nat.lt_or_ge 1 w.heap.size with h | h
    · exact h
    · simp [World.cell?, Array.getElem?_eq_none h] at hg
  have hg2 : ((w.alloc (.cells #[.pointer (some t)] 93)).alloc (.cells #[hdl 93, .pointer (some ⟨w.heap.size, 0, none⟩), .int .u64 150] 126)).cell? ⟨1, 0, none⟩ = some (rty 30) := by
    rw [World.cell?_alloc_lt _ _ ⟨1, 0, none⟩ (by simp; omega), World.cell?_alloc_lt _ _ ⟨1, 0, none⟩ hlt]; exact hg
  have htl : t.block < w.heap.size := by
    rcases Nat.lt_or_ge t.block w.heap.size with h | h
    · exact h
    · simp [World.cell?, Array.getElem?_eq_none h] at ht0
  have el := elemV ⟨w.heap.size, 0, none⟩ t (asW t w) (by rw [World.cell?_alloc_lt _ _ ⟨w.heap.size, 0, none⟩ (by simp; omega)]; simp)
  have st := setE t ⟨w.heap.size + 1 + 1 + 1, 0, none⟩ k old ((asW t w).alloc (.cells #[.int .i64 k] 26))
    (by rw [World.cell?_alloc_at _ _ _ _ (by simp)]; rfl)
    (by rw [World.cell?_alloc_lt _ _ t (by simp; omega), World.cell?_alloc_lt _ _ t (by simp; omega), World.cell?_alloc_lt _ _ t (by simp; omega), World.cell?_alloc_lt _ _ t htl]; exact ht0)
    (by rw [World.frozen?_alloc_old _ _ t (by simp; omega), World.frozen?_alloc_old _ _ t (by simp; omega), World.frozen?_alloc_old _ _ t (by simp; omega), World.frozen?_alloc_old _ _ t (Nat.ne_of_lt htl)]; exact hf0)
  go_enter Tryz.func44, Tryz.ntmps44
  go_wp2
  refine wp_loop_rounds 1 ?_
  rw [rounds_succ]
  go_wp2
  go_ret
  exact ⟨rfl, rfl⟩
set_option maxHeartbeats 4000000 in
set_option maxRecDepth 100000 in
theorem as_at (pb po : Nat) (k : Int) (t : Addr) (old : Value) (w : World) (hp : w.cell? ⟨pb, po, none⟩ = some (.int .i64 k)) (hg : w.cell? ⟨1, 0, none⟩ = some (rty 30)) (ht0 : w.cell? t = some old) (hf0 : w.frozen? t = false) :
    Calls Tryz.prog 44 #[.iface 88 (.pointer (some ⟨pb, po, none⟩)), .iface 93 (.pointer (some t))] w fun ev w' => ev = .returned (.bool true) ∧ w' = ((asW t w).alloc (.cells #[.int .i64 k] 26)).setCell t (.int .i64 k) := by
  have xValueOf := @run_callFunc_extern Tryz.prog 74 _ (fun args => ReflectliteValue.unpack (args.getD 0 (.tuple #[]))) Tryz.func74 (by kernel_rfl) (by kernel_rfl) (by kernel_rfl) (by kernel_rfl)
  have xType := @run_callFunc_extern Tryz.prog 75 _ (ReflectliteValue.methodAny (ReflectliteValue.valueError "reflectlite.Value.Type" 0) (fun t _ _ _ => ReflectliteType.toType t)) Tryz.func75 (by kernel_rfl) (by kernel_rfl) (by kernel_rfl) (by kernel_rfl)
  have xIsNil := @run_callFunc_extern Tryz.prog 76 _ (ReflectliteValue.method (ReflectliteValue.valueError "reflectlite.Value.IsNil" 0) ReflectliteValue.isNil) Tryz.func76 (by kernel_rfl) (by kernel_rfl) (by kernel_rfl) (by kernel_rfl)
  have xKind := @run_callFunc_extern Tryz.prog 147 _ (ReflectliteType.abiMethod fun t => do pure (.int .u8 (← Rtype.kind t))) Tryz.func147 (by kernel_rfl) (by kernel_rfl) (by kernel_rfl) (by kernel_rfl)
  have xElem := @run_callFunc_extern Tryz.prog 160 _ (ReflectliteType.method ReflectliteType.elem) Tryz.func160 (by kernel_rfl) (by kernel_rfl) (by kernel_rfl) (by kernel_rfl)
  have xImplements := @run_callFunc_extern Tryz.prog 161 _ (ReflectliteType.relation "Implements" ReflectliteType.implements_) Tryz.func161 (by kernel_rfl) (by kernel_rfl) (by kernel_rfl) (by kernel_rfl)
  have xTypeOf := @run_callFunc_extern Tryz.prog 104 _ ReflectliteType.typeOf Tryz.func104 (by kernel_rfl) (by kernel_rfl) (by kernel_rfl) (by kernel_rfl)
  have xAssignableTo := @run_callFunc_extern Tryz.prog 158 _ (ReflectliteType.relation "AssignableTo" ReflectliteType.assignableTo) Tryz.func158 (by kernel_rfl) (by kernel_rfl) (by kernel_rfl) (by kernel_rfl)
  have xVElem := @run_callFunc_extern Tryz.prog 105 _ (ReflectliteValue.method (ReflectliteValue.valueError "reflectlite.Value.Elem" 0) ReflectliteValue.elem) Tryz.func105 (by kernel_rfl) (by kernel_rfl) (by kernel_rfl) (by kernel_rfl)
  have xSet := @run_callFunc_extern Tryz.prog 106 _ ReflectliteValue.set Tryz.func106 (by kernel_rfl) (by kernel_rfl) (by kernel_rfl) (by kernel_rfl)
  have tOE := typeOfE
  have tOA := typeOfA
  have mA := methodAssignableTo
  have aE := assignableE
  have aA := assignableA
  have vE := valueOfE
  have vP := valueOfP
  have tP := typeP
  have mK := methodKind
  have mE := methodElem
  have mI := methodImplements
  have mU := methodUnwrap
  have nA := noAsA
  have hU := hasUnA
  have nU := noUnE
  have kP := kindP
  have kE := kindE
  have eP := elemP
  have iE := implementsE
  have nP := isNilP ⟨w.heap.size, 0, none⟩ t ((w.alloc (.cells #[.pointer (some t)] 93)).alloc (.cells #[hdl 93, .pointer (some ⟨w.heap.size, 0, none⟩), .int .u64 150] 126)) (by simp)
  have hlt : 1 < w.heap.size := by
    rcases Nat.lt_or_ge 1 w.heap.size with h | h
    · exact h
    · simp [World.cell?, Array.getElem?_eq_none h] at hg
  have hg2 : ((w.alloc (.cells #[.pointer (some t)] 93)).alloc (.cells #[hdl 93, .pointer (some ⟨w.heap.size, 0, none⟩), .int .u64 150] 126)).cell? ⟨1, 0, none⟩ = some (rty 30) := by
    rw [World.cell?_alloc_lt _ _ ⟨1, 0, none⟩ (by simp; omega), World.cell?_alloc_lt _ _ ⟨1, 0, none⟩ hlt]; exact hg
  have htl : t.block < w.heap.size := by
    rcases Nat.lt_or_ge t.block w.heap.size with h | h
    · exact h
    · simp [World.cell?, Array.getElem?_eq_none h] at ht0
  have hpl : pb < w.heap.size := by
    rcases Nat.lt_or_ge pb w.heap.size with h | h
    · exact h
    · simp [World.cell?, Array.getElem?_eq_none h] at hp
  have hp2 : (asW t w).cell? ⟨pb, po, none⟩ = some (.int .i64 k) := by
    rw [World.cell?_alloc_lt _ _ ⟨pb, po, none⟩ (by simp; omega), World.cell?_alloc_lt _ _ ⟨pb, po, none⟩ (by simp; omega), World.cell?_alloc_lt _ _ ⟨pb, po, none⟩ (by simp; omega)]; exact hp
  have el := elemV ⟨w.heap.size, 0, none⟩ t (asW t w) (by rw [World.cell?_alloc_lt _ _ ⟨w.heap.size, 0, none⟩ (by simp; omega)]; simp)
  have st := setE t ⟨w.heap.size + 1 + 1 + 1, 0, none⟩ k old ((asW t w).alloc (.cells #[.int .i64 k] 26))
    (by rw [World.cell?_alloc_at _ _ _ _ (by simp)]; rfl)
    (by rw [World.cell?_alloc_lt _ _ t (by simp; omega), World.cell?_alloc_lt _ _ t (by simp; omega), World.cell?_alloc_lt _ _ t (by simp; omega), World.cell?_alloc_lt _ _ t htl]; exact ht0)
    (by rw [World.frozen?_alloc_old _ _ t (by simp; omega), World.frozen?_alloc_old _ _ t (by simp; omega), World.frozen?_alloc_old _ _ t (by simp; omega), World.frozen?_alloc_old _ _ t (Nat.ne_of_lt htl)]; exact hf0)
  go_enter Tryz.func44, Tryz.ntmps44
  go_wp2
  refine wp_loop_rounds 2 ?_
  rw [rounds_succ]
  go_wp2
  rw [rounds_succ]
  go_wp2
  go_ret
  exact ⟨rfl, rfl⟩
end Go.Proofs.YtignjjnflcpiiabGreatDoor
namespace Go.Proofs.YtignjjnflcpiiabGreatDoor
open Go.RowKit Go.Extern.Stop Go.Stop Go.Extern
def ErrVar (w : World) : Prop := w.cell? ⟨1, 0, none⟩ = some (rty 30)
theorem errVar_lt {w : World} (h : ErrVar w) : 1 < w.heap.size := by
  rcases Nat.lt_or_ge 1 w.heap.size with h' | h'
  · exact h'
  · simp [ErrVar, World.cell?, Array.getElem?_eq_none h'] at h
theorem ErrVar.below {B : Nat} {w w' : World} (h : ErrVar w) (hb : Below B w w') (hB : 1 < B) : ErrVar w' := by
  unfold ErrVar
  rw [hb.cell hB]
  exact h
def IsErr (w : World) (v : Value) (e place : Int) : Prop :=
  (v = .nilIface ∧ e = 0 ∧ place = -1) ∨ (v = .iface 26 (.int .i64 e) ∧ place = -1) ∨
    ∃ b o : Nat, v = .iface 88 (.pointer (some ⟨b, o, none⟩)) ∧ w.cell? ⟨b, o, none⟩ = some (.int .i64 e) ∧ w.cell? ⟨b, o + 1, none⟩ = some (.int .i64 place)
theorem cellOf_lt {w : World} {b k : Nat} {x : Value} (h : w.cell? ⟨b, k, none⟩ = some x) : b < w.heap.size := by
  rcases Nat.lt_or_ge b w.heap.size with h' | h'
  · exact h'
  · simp [World.cell?, Array.getElem?_eq_none h'] at h
theorem IsErr.below {w w' : World} {v : Value} {e p : Int} (h : IsErr w v e p) (hb : Below w.heap.size w w') : IsErr w' v e p := by
  rcases h with h | h | ⟨b, o, h1, h2, h3⟩
  · exact .inl h
  · exact .inr (.inl h)
  · exact .inr (.inr ⟨b, o, h1, by rw [hb.cell (cellOf_lt h2)]; exact h2, by rw [hb.cell (cellOf_lt h3)]; exact h3⟩)
set_option maxHeartbeats 1000000 in
theorem tell_any (v : Value) (e p : Int) (w : World) (h : IsErr w v e p) (hg : ErrVar w) :
    Calls Tryz.prog 22 #[v] w fun x w' => x = .returned (.int .i64 e) ∧ Below w.heap.size w w' := by
  have hgl := errVar_lt hg
  have hg1 : ErrVar (w.alloc (.cells #[.int .i64 0] 26)) := hg.below ((Below.refl _ w).alloc (Nat.le_refl _) _) hgl
  have bel : ∀ k : Int, Below w.heap.size w (((asW ⟨w.heap.size, 0, none⟩ (w.alloc (.cells #[.int .i64 0] 26))).alloc (.cells #[.int .i64 k] 26)).setCell ⟨w.heap.size, 0, none⟩ (.int .i64 k)) := fun k =>
    (((((((Below.refl _ w).alloc (Nat.le_refl _) _).alloc (by simp) _).alloc (by simp; omega) _).alloc (by simp; omega) _).alloc (by simp; omega) _)).setCell (Nat.le_refl _) _
  have cel : ∀ k : Int, (((asW ⟨w.heap.size, 0, none⟩ (w.alloc (.cells #[.int .i64 0] 26))).alloc (.cells #[.int .i64 k] 26)).setCell ⟨w.heap.size, 0, none⟩ (.int .i64 k)).cell? ⟨w.heap.size, 0, none⟩ = some (.int .i64 k) := fun k => by
    rw [World.cell?_setCell_same (u := .int .i64 0)]
    rw [World.cell?_alloc_lt _ _ ⟨w.heap.size, 0, none⟩ (by simp; omega), World.cell?_alloc_lt _ _ ⟨w.heap.size, 0, none⟩ (by simp; omega), World.cell?_alloc_lt _ _ ⟨w.heap.size, 0, none⟩ (by simp; omega), World.cell?_alloc_lt _ _ ⟨w.heap.size, 0, none⟩ (by simp)]
    simp
  have Bel := hid bel
  clear bel
  rcases h with ⟨rfl, rfl, rfl⟩ | ⟨rfl, rfl⟩ | ⟨b, o, rfl, h2, h3⟩
  · go_enter Tryz.func22, Tryz.ntmps22
    go_wp2_with fail
    go_ret
    exact ⟨rfl, Below.refl _ _⟩
  · go_enter Tryz.func22, Tryz.ntmps22
    go_wp2_with fail
    refine (as_errno e ⟨w.heap.size, 0, none⟩ (.int .i64 0) _ hg1 (by simp) (by simp)).mono ?_
    rintro x w1 ⟨rfl, rfl⟩
    have ce := cel e
    have be := Bel.out e
    generalize (((asW ⟨w.heap.size, 0, none⟩ (w.alloc (.cells #[.int .i64 0] 26))).alloc (.cells #[.int .i64 e] 26)).setCell ⟨w.heap.size, 0, none⟩ (.int .i64 e)) = w1 at ce be ⊢
    go_wp2_with fail
    go_ret
    exact ⟨rfl, be⟩
  · have h2' : (w.alloc (.cells #[.int .i64 0] 26)).cell? ⟨b, o, none⟩ = some (.int .i64 e) := by
      rw [World.cell?_alloc_lt _ _ ⟨b, o, none⟩ (cellOf_lt h2)]; exact h2
    go_enter Tryz.func22, Tryz.ntmps22
    go_wp2_with fail
    refine (as_at b o e ⟨w.heap.size, 0, none⟩ (.int .i64 0) _ h2' hg1 (by simp) (by simp)).mono ?_
    rintro x w1 ⟨rfl, rfl⟩
    have ce := cel e
    have be := Bel.out e
    generalize (((asW ⟨w.heap.size, 0, none⟩ (w.alloc (.cells #[.int .i64 0] 26))).alloc (.cells #[.int .i64 e] 26)).setCell ⟨w.heap.size, 0, none⟩ (.int .i64 e)) = w1 at ce be ⊢
    go_wp2_with fail
    go_ret
    exact ⟨rfl, be⟩
theorem atNo (v : Value) (w : World) : (Instr.typeAssert (.iface 26 v) 30 88 true).run Tryz.prog w = .ok (.tuple #[.pointer none, .bool false]) w := by kernel_rfl
theorem atYes (v : Value) (w : World) : (Instr.typeAssert (.iface 88 v) 30 88 true).run Tryz.prog w = .ok (.tuple #[v, .bool true]) w := by kernel_rfl
set_option maxHeartbeats 1000000 in
set_option maxRecDepth 100000 in
theorem place_any (v : Value) (e p : Int) (w : World) (h : IsErr w v e p) (hg : ErrVar w) :
    Calls Tryz.prog 26 #[v] w fun x w' => x = .returned (.tuple #[.int .i64 e, .int .i64 p]) ∧ Below w.heap.size w w' := by
  have nU := noUnE
  have aN := atNo
  have aY := atYes
  have Tl := hid (tell_any v e p w h hg)
  rcases h with ⟨rfl, rfl, rfl⟩ | ⟨rfl, rfl⟩ | ⟨b, o, rfl, h2, h3⟩
  · go_enter Tryz.func26, Tryz.ntmps26
    go_wp2_with fail
    refine Tl.out.mono ?_
    rintro x w1 ⟨rfl, b1⟩
    go_wp2_with fail
    refine wp_loop_rounds 1 ?_
    rw [rounds_succ]
    go_wp2_with fail
    go_ret2
    exact ⟨rfl, b1⟩
  · go_enter Tryz.func26, Tryz.ntmps26
    go_wp2_with fail
    refine Tl.out.mono ?_
    rintro x w1 ⟨rfl, b1⟩
    go_wp2_with fail
    refine wp_loop_rounds 1 ?_
    rw [rounds_succ]
    go_wp2_with fail
    go_ret2
    exact ⟨rfl, b1⟩
  · go_enter Tryz.func26, Tryz.ntmps26
    go_wp2_with fail
    refine Tl.out.mono ?_
    rintro x w1 ⟨rfl, b1⟩
    have h3' : w1.cell? ⟨b, o + 1, none⟩ = some (.int .i64 p) := by rw [b1.cell (cellOf_lt h3)]; exact h3
    go_wp2_with fail
    refine wp_loop_rounds 1 ?_
    rw [rounds_succ]
    go_wp2_with fail
    go_region
    go_wp2_with fail
    go_ret2
    exact ⟨rfl, b1.drew⟩
set_option maxHeartbeats 1000000 in
theorem is_any (v : Value) (e p e' p' : Int) (w : World) (h : IsErr w v e p) (hg : ErrVar w) :
    Calls Tryz.prog 10 #[v, .agg #[.int .i64 e', .int .i64 p']] w fun x w' => x = .returned (.bool (e == e' && p == p')) ∧ Below w.heap.size w w' := by
  have Pl := hid (fun W (hb : Below w.heap.size w W) => place_any v e p W (h.below hb) (hg.below hb (errVar_lt hg)))
  clear h hg
  go_enter Tryz.func10, Tryz.ntmps10
  go_wp2_with fail
  refine (Pl.out _ ((Below.refl _ w).alloc (Nat.le_refl _) _)).mono ?_
  rintro x w1 ⟨rfl, b1⟩
  have c0 : w1.cell? ⟨w.heap.size, 0, none⟩ = some (.int .i64 e') := by rw [b1.cell (by simp)]; simp
  have c1 : w1.cell? ⟨w.heap.size, 1, none⟩ = some (.int .i64 p') := by rw [b1.cell (by simp)]; simp
  have b2 : Below w.heap.size w w1 := ((Below.refl _ w).alloc (Nat.le_refl _) _).trans (b1.mono (by simp))
  rcases hee : e == e' with _ | _
  all_goals
    go_wp2_with fail
    go_ret
    exact ⟨by rw [hee]; simp, b2⟩
set_option maxHeartbeats 1000000 in
theorem bareF_any (e' : Int) (w : World) :
    Calls Tryz.prog 11 #[.int .i64 e'] w fun x w' => x = .returned (.agg #[.int .i64 e', .int .i64 (-1)]) ∧ Below w.heap.size w w' := by
  go_enter Tryz.func11, Tryz.ntmps11
  go_wp2_with fail
  go_returns
  exact ⟨rfl, (Below.refl _ w).alloc (Nat.le_refl _) _⟩
set_option maxHeartbeats 1000000 in
theorem bare_any (v : Value) (e p e' : Int) (w : World) (h : IsErr w v e p) (hg : ErrVar w) :
    Calls Tryz.prog 6 #[v, .int .i64 e'] w fun x w' => x = .returned (.bool (e == e' && p == -1)) ∧ Below w.heap.size w w' := by
  have Is := hid (fun W (hb : Below w.heap.size w W) => is_any v e p e' (-1) W (h.below hb) (hg.below hb (errVar_lt hg)))
  clear h hg
  go_enter Tryz.func6, Tryz.ntmps6
  go_wp2_with fail
  refine (bareF_any e' _).mono ?_
  rintro x w1 ⟨rfl, b1⟩
  go_wp2_with fail
  refine (Is.out _ b1).mono ?_
  rintro x w2 ⟨rfl, b2⟩
  go_wp2_with fail
  go_ret
  exact ⟨rfl, b1.trans (b2.mono b1.size)⟩
end Go.Proofs.YtignjjnflcpiiabGreatDoor
