/- A small logic over the model: abstract values, what they stand for in a world, states of a frame, and the rules of code: sequence, test, block, loop, region in its order and region that draws its order. -/
import Derived.WalkKit
import Derived.Orders
import Derived.Below
import Derived.Laws.AppendOwn
set_option linter.unusedVariables false
set_option linter.unusedSimpArgs false
namespace Go.Proofs.YtignjjnflcpiiaaDoor
open Go.RowKit

/-- parts in parts: fields, bytes, whether there are parts, parts -/
inductive PT where
  | mk (head : List (List UInt8 × List UInt8)) (body : List UInt8) (many : Bool) (parts : List PT)
def PT.head : PT → List (List UInt8 × List UInt8) | .mk h _ _ _ => h
def PT.body : PT → List UInt8 | .mk _ b _ _ => b
def PT.many : PT → Bool | .mk _ _ m _ => m
def PT.parts : PT → List PT | .mk _ _ _ p => p
/-- an abstract value: scalars and texts as they are; places by the number of their object; slices and pointers that nobody writes by what they hold (fr: made since the frame began) -/
inductive AV where
  | any
  | bool (b : Bool)
  | int (k : IntKind) (n : Int)
  | str (s : List UInt8)
  | nilp
  | ptr (id fo : Nat)
  | eptr (id sz i fo : Nat)
  | gptr (g off : Nat)
  | rptr (fr : Bool) (cells : List AV)
  | nils
  | sl (id : Nat)
  | ro (fr : Bool) (sz : Nat) (rows : List (List AV))
  | pts (fr : Bool) (l : List PT)
  | nili
  | iface (t : TypeId) (v : AV)
  | agg (l : List AV)
  | tup (l : List AV)
  | clo (f : FuncId) (caps : List AV)

mutual
/-- does a value name object t? -/
def AV.ment (t : Nat) : AV → Bool
  | .ptr id _ | .eptr id _ _ _ | .sl id => Nat.beq id t
  | .iface _ v => v.ment t
  | .agg l | .tup l | .clo _ l => AV.mentL t l
  | _ => false
def AV.mentL (t : Nat) : List AV → Bool
  | [] => false
  | v :: r => match v.ment t with
    | true => true
    | false => AV.mentL t r
end
theorem AV.mentL_mem {t : Nat} {v : AV} : ∀ {l : List AV}, v ∈ l → v.ment t = true → AV.mentL t l = true
  | x :: r, h, hv => by
    rw [AV.mentL]
    cases hx : x.ment t with
    | true => rfl
    | false =>
      rcases List.mem_cons.1 h with rfl | h
      · rw [hx] at hv; cases hv
      · exact AV.mentL_mem h hv
def AV.kill (t : Nat) (v : AV) : AV := match v.ment t with
  | true => .any
  | false => v

/-- no object at all -/
def g0 : Nat → Value := fun _ => undef

/-- a value of one cell that holds no place -/
inductive FRep : AV → Value → Prop
  | any (v : Value) : FRep .any v
  | bool (b : Bool) : FRep (.bool b) (.bool b)
  | int (k : IntKind) (n : Int) : FRep (.int k n) (.int k n)
  | str (s : List UInt8) : FRep (.str s) (.string ⟨s.toArray⟩)
/-- a slice of rows of such values, in blocks that are ok -/
def RowsAt (w : World) (ok : Nat → Prop) (sz : Nat) (rows : List (List AV)) (v : Value) : Prop :=
  (rows = [] ∧ ∃ a cap, v = .slice a 0 cap ∧ (a = none → cap = 0)) ∨
  ∃ (b o cap : Nat) (cs : Nat → Nat → Value), v = .slice (some ⟨b, o, none⟩) rows.length cap ∧ ok b ∧ 0 < rows.length ∧ 0 < sz ∧ rows.length ≤ cap ∧
    (∀ i, i < rows.length → ∀ j, j < sz → w.cell? ⟨b, o + i * sz + j, none⟩ = some (cs i j)) ∧ (∀ i (h : i < rows.length), rows[i].length = sz) ∧
    ∀ i (h : i < rows.length) j (hj : j < rows[i].length), FRep rows[i][j] (cs i j)
def fieldRows (l : List (List UInt8 × List UInt8)) : List (List AV) := l.map fun f => [.str f.1, .str f.2]
/-- a slice of parts -/
inductive PtsRep (w : World) (ok : Nat → Prop) : List PT → Value → Prop
  | nil (a : Option Addr) (cap : Nat) (ha : a = none → cap = 0) : PtsRep w ok [] (.slice a 0 cap)
  | mk (l : List PT) (b o cap : Nat) (hv pv : Nat → Value) (hok : ok b) (h0 : 0 < l.length) (hcap : l.length ≤ cap)
      (hc : ∀ i (h : i < l.length), w.cell? ⟨b, o + i * 4, none⟩ = some (hv i) ∧ w.cell? ⟨b, o + i * 4 + 1, none⟩ = some (.string ⟨l[i].body.toArray⟩) ∧
        w.cell? ⟨b, o + i * 4 + 2, none⟩ = some (.bool l[i].many) ∧ w.cell? ⟨b, o + i * 4 + 3, none⟩ = some (pv i))
      (hh : ∀ i (h : i < l.length), RowsAt w ok 2 (fieldRows l[i].head) (hv i)) (hp : ∀ i (h : i < l.length), PtsRep w ok l[i].parts (pv i)) : PtsRep w ok l (.slice (some ⟨b, o, none⟩) l.length cap)
/-- may a value that is not written lie in block b? N: the first block of the frame's own -/
def Still (N : Nat) (M : Nat → Prop) (fr : Bool) (b : Nat) : Prop := ¬ M b ∧ (fr = true → N ≤ b)

/-- what an abstract value stands for, in a world; M: the blocks that may be written -/
inductive Rep (w : World) (N : Nat) (M : Nat → Prop) : (Nat → Value) → AV → Value → Prop
  | any (γ : Nat → Value) (v : Value) : Rep w N M γ .any v
  | bool (γ : Nat → Value) (b : Bool) : Rep w N M γ (.bool b) (.bool b)
  | int (γ : Nat → Value) (k : IntKind) (n : Int) : Rep w N M γ (.int k n) (.int k n)
  | str (γ : Nat → Value) (s : List UInt8) : Rep w N M γ (.str s) (.string ⟨s.toArray⟩)
  | nilp (γ : Nat → Value) : Rep w N M γ .nilp (.pointer none)
  | ptr (γ : Nat → Value) (id fo b : Nat) (h : γ id = .pointer (some ⟨b, 0, none⟩)) : Rep w N M γ (.ptr id fo) (.pointer (some ⟨b, fo, none⟩))
  | eptr (γ : Nat → Value) (id sz i fo g n cap : Nat) (h : γ id = .slice (some ⟨g, 0, none⟩) n cap) : Rep w N M γ (.eptr id sz i fo) (.pointer (some ⟨g, i * sz + fo, none⟩))
  | gptr (γ : Nat → Value) (g off : Nat) : Rep w N M γ (.gptr g off) (.pointer (some ⟨g, off, none⟩))
  | rptr (γ : Nat → Value) (fr : Bool) (cells : List AV) (b o : Nat) (cs : Nat → Value) (hok : Still N M fr b) (h0 : 0 < cells.length) (hc : ∀ j, j < cells.length → w.cell? ⟨b, o + j, none⟩ = some (cs j))
      (hr : ∀ j (h : j < cells.length), Rep w N M g0 cells[j] (cs j)) : Rep w N M γ (.rptr fr cells) (.pointer (some ⟨b, o, none⟩))
  | nils (γ : Nat → Value) : Rep w N M γ .nils (.slice none 0 0)
  | sl (γ : Nat → Value) (id : Nat) : Rep w N M γ (.sl id) (γ id)
  | ro (γ : Nat → Value) (fr : Bool) (sz : Nat) (rows : List (List AV)) (v : Value) (h : RowsAt w (Still N M fr) sz rows v) : Rep w N M γ (.ro fr sz rows) v
  | pts (γ : Nat → Value) (fr : Bool) (l : List PT) (v : Value) (h : PtsRep w (Still N M fr) l v) : Rep w N M γ (.pts fr l) v
  | nili (γ : Nat → Value) : Rep w N M γ .nili .nilIface
  | iface (γ : Nat → Value) (t : TypeId) (v : AV) (x : Value) (h : Rep w N M γ v x) : Rep w N M γ (.iface t v) (.iface t x)
  | agg (γ : Nat → Value) (l : List AV) (xs : List Value) (hl : xs.length = l.length) (h : ∀ i (hi : i < l.length) (hx : i < xs.length), Rep w N M γ l[i] xs[i]) : Rep w N M γ (.agg l) (.agg xs.toArray)
  | tup (γ : Nat → Value) (l : List AV) (xs : List Value) (hl : xs.length = l.length) (h : ∀ i (hi : i < l.length) (hx : i < xs.length), Rep w N M γ l[i] xs[i]) : Rep w N M γ (.tup l) (.tuple xs.toArray)
  | clo (γ : Nat → Value) (f : FuncId) (l : List AV) (xs : List Value) (hl : xs.length = l.length) (h : ∀ i (hi : i < l.length) (hx : i < xs.length), Rep w N M γ l[i] xs[i]) : Rep w N M γ (.clo f l) (.func (.func f) #[] xs.toArray)

section
variable {w : World} {N : Nat} {M : Nat → Prop} {γ : Nat → Value}
theorem Rep.strB (b : ByteArray) : Rep w N M γ (.str b.data.toList) (.string b) := by
  have h := Rep.str (w := w) (N := N) (M := M) γ b.data.toList
  rw [show (⟨b.data.toList.toArray⟩ : ByteArray) = b by cases b; simp] at h
  exact h
theorem Rep.bool_inv {b : Bool} {v : Value} (h : Rep w N M γ (.bool b) v) : v = .bool b := by cases h; rfl
theorem Rep.int_inv {k : IntKind} {n : Int} {v : Value} (h : Rep w N M γ (.int k n) v) : v = .int k n := by cases h; rfl
theorem Rep.str_inv {s : List UInt8} {v : Value} (h : Rep w N M γ (.str s) v) : v = .string ⟨s.toArray⟩ := by cases h; rfl
theorem Rep.nilp_inv {v : Value} (h : Rep w N M γ .nilp v) : v = .pointer none := by cases h; rfl
theorem Rep.nils_inv {v : Value} (h : Rep w N M γ .nils v) : v = .slice none 0 0 := by cases h; rfl
theorem Rep.nili_inv {v : Value} (h : Rep w N M γ .nili v) : v = .nilIface := by cases h; rfl
theorem Rep.ptr_inv {id fo : Nat} {v : Value} (h : Rep w N M γ (.ptr id fo) v) : ∃ b, γ id = .pointer (some ⟨b, 0, none⟩) ∧ v = .pointer (some ⟨b, fo, none⟩) := by
  cases h with | ptr _ _ _ b h => exact ⟨b, h, rfl⟩
theorem Rep.gptr_inv {g o : Nat} {v : Value} (h : Rep w N M γ (.gptr g o) v) : v = .pointer (some ⟨g, o, none⟩) := by cases h; rfl
theorem Rep.sl_inv {id : Nat} {v : Value} (h : Rep w N M γ (.sl id) v) : v = γ id := by cases h; rfl
theorem Rep.eptr_inv {id sz i fo : Nat} {v : Value} (h : Rep w N M γ (.eptr id sz i fo) v) : ∃ g n cap, γ id = .slice (some ⟨g, 0, none⟩) n cap ∧ v = .pointer (some ⟨g, i * sz + fo, none⟩) := by
  cases h with | eptr _ _ _ _ _ g n cap h => exact ⟨g, n, cap, h, rfl⟩
theorem Rep.rptr_inv {fr : Bool} {cells : List AV} {v : Value} (h : Rep w N M γ (.rptr fr cells) v) : ∃ (b o : Nat) (cs : Nat → Value), (Still N M fr b ∧ 0 < cells.length ∧ (∀ j, j < cells.length → w.cell? ⟨b, o + j, none⟩ = some (cs j)) ∧ ∀ j (h : j < cells.length), Rep w N M g0 cells[j] (cs j)) ∧ v = .pointer (some ⟨b, o, none⟩) := by
  cases h with | rptr _ _ _ b o cs h1 h2 h3 h4 => exact ⟨b, o, cs, ⟨h1, h2, h3, h4⟩, rfl⟩
theorem Rep.ro_inv {fr : Bool} {sz : Nat} {rows : List (List AV)} {v : Value} (h : Rep w N M γ (.ro fr sz rows) v) : RowsAt w (Still N M fr) sz rows v := by cases h; assumption
theorem Rep.pts_inv {fr : Bool} {l : List PT} {v : Value} (h : Rep w N M γ (.pts fr l) v) : PtsRep w (Still N M fr) l v := by cases h; assumption
theorem Rep.iface_inv {t : TypeId} {v : AV} {x : Value} (h : Rep w N M γ (.iface t v) x) : ∃ y, x = .iface t y ∧ Rep w N M γ v y := by
  cases h with | iface _ _ _ y h => exact ⟨y, rfl, h⟩
theorem Rep.agg_inv {l : List AV} {x : Value} (h : Rep w N M γ (.agg l) x) : ∃ xs : List Value, x = .agg xs.toArray ∧ xs.length = l.length ∧ ∀ i (hi : i < l.length) (hx : i < xs.length), Rep w N M γ l[i] xs[i] := by
  cases h with | agg _ _ xs hl h => exact ⟨xs, rfl, hl, h⟩
theorem Rep.tup_inv {l : List AV} {x : Value} (h : Rep w N M γ (.tup l) x) : ∃ xs : List Value, x = .tuple xs.toArray ∧ xs.length = l.length ∧ ∀ i (hi : i < l.length) (hx : i < xs.length), Rep w N M γ l[i] xs[i] := by
  cases h with | tup _ _ xs hl h => exact ⟨xs, rfl, hl, h⟩
theorem Rep.clo_inv {f : FuncId} {l : List AV} {x : Value} (h : Rep w N M γ (.clo f l) x) : ∃ xs : List Value, x = .func (.func f) #[] xs.toArray ∧ xs.length = l.length ∧ ∀ i (hi : i < l.length) (hx : i < xs.length), Rep w N M γ l[i] xs[i] := by
  cases h with | clo _ _ _ xs hl h => exact ⟨xs, rfl, hl, h⟩

theorem still_mono {w w' : World} {N N' : Nat} {M M' : Nat → Prop} (hM : ∀ b, b < w.heap.size → M' b → M b) (hw : ∀ b, b < w.heap.size → ¬ M b → w'.heap[b]? = w.heap[b]?) (hN : N' ≤ N) {fr : Bool} {b o : Nat} {v : Value} (hok : Still N M fr b) (hc : w.cell? ⟨b, o, none⟩ = some v) :
    Still N' M' fr b ∧ w'.cell? ⟨b, o, none⟩ = some v := by
  have hlt : b < w.heap.size := World.block_lt_of_cell? w ⟨b, o, none⟩ hc
  refine ⟨⟨fun h => hok.1 (hM b hlt h), fun h => Nat.le_trans hN (hok.2 h)⟩, ?_⟩
  rw [World.cell?_of_block (w := w) (a := ⟨b, o, none⟩) (hw b hlt hok.1)]
  exact hc
/-- rows and parts stay when their cells and blocks do -/
theorem RowsAt.mono {w w' : World} {ok ok' : Nat → Prop} (hk : ∀ b o v, ok b → w.cell? ⟨b, o, none⟩ = some v → ok' b ∧ w'.cell? ⟨b, o, none⟩ = some v) {sz : Nat} {rows : List (List AV)} {v : Value} (h : RowsAt w ok sz rows v) : RowsAt w' ok' sz rows v := by
  rcases h with h | ⟨b, o, cap, cs, hv, hok, h0, hs, hcap, hc, hl, hr⟩
  · exact .inl h
  · exact .inr ⟨b, o, cap, cs, hv, (hk b _ _ hok (hc 0 h0 0 hs)).1, h0, hs, hcap, fun i hi j hj => (hk b _ _ hok (hc i hi j hj)).2, hl, hr⟩
theorem PtsRep.mono {w w' : World} {ok ok' : Nat → Prop} (hk : ∀ b o v, ok b → w.cell? ⟨b, o, none⟩ = some v → ok' b ∧ w'.cell? ⟨b, o, none⟩ = some v) {l : List PT} {v : Value} (h : PtsRep w ok l v) : PtsRep w' ok' l v := by
  induction h with
  | nil a cap ha => exact .nil a cap ha
  | mk l b o cap hv pv hok h0 hcap hc hh hp ih =>
    refine .mk l b o cap hv pv (hk b _ _ hok (hc 0 h0).1).1 h0 hcap (fun i hi => ?_) (fun i hi => (hh i hi).mono hk) ih
    obtain ⟨h1, h2, h3, h4⟩ := hc i hi
    exact ⟨(hk b _ _ hok h1).2, (hk b _ _ hok h2).2, (hk b _ _ hok h3).2, (hk b _ _ hok h4).2⟩
theorem Rep.mono {w' : World} {N' : Nat} {M' : Nat → Prop} {v : AV} {x : Value} (h : Rep w N M γ v x) (hw : ∀ b, b < w.heap.size → ¬ M b → w'.heap[b]? = w.heap[b]?) (hM : ∀ b, b < w.heap.size → M' b → M b) (hN : N' ≤ N) :
    ∀ γ' : Nat → Value, (∀ id, v.ment id = true → γ' id = γ id) → Rep w' N' M' γ' v x := by
  induction h with
  | any γ v => exact fun γ' _ => .any _ _
  | bool γ b => exact fun γ' _ => .bool _ _
  | int γ k n => exact fun γ' _ => .int _ _ _
  | str γ s => exact fun γ' _ => .str _ _
  | nilp γ => exact fun γ' _ => .nilp _
  | ptr γ id fo b h => exact fun γ' hg => .ptr _ _ _ _ ((hg id (Nat.beq_refl _)).trans h)
  | eptr γ id sz i fo g n cap h => exact fun γ' hg => .eptr _ _ _ _ _ _ _ _ ((hg id (Nat.beq_refl _)).trans h)
  | gptr γ g off => exact fun γ' _ => .gptr _ _ _
  | rptr γ fr cells b o cs hok h0 hc hr ih =>
    intro γ' _
    exact .rptr _ _ _ _ _ cs (still_mono hM hw hN hok (hc 0 h0)).1 h0 (fun j hj => (still_mono hM hw hN hok (hc j hj)).2) (fun j hj => ih j hj g0 (fun _ _ => rfl))
  | nils γ => exact fun γ' _ => .nils _
  | sl γ id => intro γ' hg; rw [← hg id (Nat.beq_refl _)]; exact .sl _ _
  | ro γ fr sz rows v h => exact fun γ' _ => .ro _ _ _ _ _ (h.mono (fun b o v hok hc => still_mono hM hw hN hok hc))
  | pts γ fr l v h => exact fun γ' _ => .pts _ _ _ _ (h.mono (fun b o v hok hc => still_mono hM hw hN hok hc))
  | nili γ => exact fun γ' _ => .nili _
  | iface γ t v x h ih => exact fun γ' hg => .iface _ _ _ _ (ih γ' hg)
  | agg γ l xs hl h ih => exact fun γ' hg => .agg _ _ _ hl (fun i hi hx => ih i hi hx γ' (fun id hid => hg id (by rw [AV.ment]; exact AV.mentL_mem (List.getElem_mem hi) hid)))
  | tup γ l xs hl h ih => exact fun γ' hg => .tup _ _ _ hl (fun i hi hx => ih i hi hx γ' (fun id hid => hg id (by rw [AV.ment]; exact AV.mentL_mem (List.getElem_mem hi) hid)))
  | clo γ f l xs hl h ih => exact fun γ' hg => .clo _ _ _ _ hl (fun i hi hx => ih i hi hx γ' (fun id hid => hg id (by rw [AV.ment]; exact AV.mentL_mem (List.getElem_mem hi) hid)))
end

/-- an object of a frame's own: a block of cells; a slice that grows, e its element's type, sz its cells; one of parts; a builder; a walk over a text; a struct one of whose cells (k) is a slice of its own -/
inductive AObj where
  | box (cells : List AV)
  | rows (e : TypeId) (sz : Nat) (rows : List (List AV))
  | pts (e : TypeId) (l : List PT)
  | bld (e eb : TypeId) (l : List UInt8)
  | iter (s : List UInt8) (pos : Nat)
  | nest (cells : List AV) (k : Nat) (e : TypeId) (sz : Nat) (rows : List (List AV))
abbrev Heap := Nat → Option AObj
structure St where
  env : Nat → AV
  heap : Heap

def ofConst : Value → AV
  | .bool b => .bool b
  | .int k n => .int k n
  | .string s => .str s.data.toList
  | .pointer none => .nilp
  | .slice none 0 0 => .nils
  | .nilIface => .nili
  | _ => .any
def St.ev (σ : St) : Operand → AV
  | .tmp t => σ.env t
  | .const v => ofConst v
  | .global g => .gptr g 0
  | .func f => .clo f []
def St.put (σ : St) (d : Nat) (v : AV) : St := ⟨fun i => match Nat.beq i d with
  | true => v
  | false => σ.env i, σ.heap⟩
def St.puto (σ : St) (d : Option Nat) (v : AV) : St := match d with
  | some d => σ.put d v
  | none => σ
def St.set (σ : St) (id : Nat) (o : Option AObj) : St := ⟨σ.env, fun i => match Nat.beq i id with
  | true => o
  | false => σ.heap i⟩
def AObj.kill (t : Nat) : AObj → AObj
  | .box cells => .box (cells.map (AV.kill t))
  | o => o
def St.kill (σ : St) (t : Nat) : St := ⟨fun i => (σ.env i).kill t, fun id => match Nat.beq id t with
  | true => none
  | false => (σ.heap id).map (AObj.kill t)⟩

theorem ofConst_rep {w : World} {N : Nat} {M : Nat → Prop} {γ : Nat → Value} (v : Value) : Rep w N M γ (ofConst v) v := by
  unfold ofConst
  split
  · exact .bool _ _
  · exact .int _ _ _
  · exact Rep.strB _
  · exact .nilp _
  · exact .nils _
  · exact .nili _
  · exact .any _ _

def vblock : Value → Option Nat
  | .pointer (some a) => some a.block
  | .slice (some a) _ _ => some a.block
  | _ => none
abbrev Gh := Nat → Value × Value
def Blk (γ : Gh) (id b : Nat) : Prop := vblock (γ id).1 = some b ∨ vblock (γ id).2 = some b

/-- what all frames of one proof share: the program, what is known of the variables, how many there are -/
structure Gx where
  P : Program
  G : World → Prop
  nG : Nat
  hG : ∀ w w' : World, G w → (∀ k, k < nG → w'.heap[k]? = w.heap[k]?) → G w'
  mixed : P.follows .mixedOrders = true
/-- a frame's surroundings: how many slots it has, the world when it began, the blocks that it may write (M0), the objects whose place is known (pin) -/
structure Cx extends Gx where
  n : Nat
  w0 : World
  M0 : Nat → Prop
  pin : Nat → Option Value
  hn : nG ≤ w0.heap.size
  hM : ∀ b, M0 b → nG ≤ b
abbrev Cx.N (C : Cx) : Nat := C.w0.heap.size
def Mut (γ : Gh) (H : Heap) (b : Nat) : Prop := ∃ id o, H id = some o ∧ Blk γ id b

/-- behind a call or a statement: what was there is as it was, but in the blocks M -/
structure Chg (M : Nat → Prop) (w w' : World) : Prop where
  os : w'.os = w.os
  tape : w'.tape = w.tape
  output : w'.output = w.output
  size : w.heap.size ≤ w'.heap.size
  block : ∀ k, k < w.heap.size → ¬ M k → w'.heap[k]? = w.heap[k]?
theorem Chg.refl (M : Nat → Prop) (w : World) : Chg M w w := ⟨rfl, rfl, rfl, Nat.le_refl _, fun _ _ _ => rfl⟩
theorem Chg.trans {M : Nat → Prop} {a b c : World} (h : Chg M a b) {M' : Nat → Prop} (k : Chg M' b c) (hM : ∀ x, x < a.heap.size → M' x → M x) : Chg M a c :=
  ⟨k.os.trans h.os, k.tape.trans h.tape, k.output.trans h.output, Nat.le_trans h.size k.size, fun i hi hm => (k.block i (Nat.lt_of_lt_of_le hi h.size) (fun hx => hm (hM i hi hx))).trans (h.block i hi hm)⟩
abbrev Ext (w w' : World) : Prop := Below w.heap.size w w'
theorem chgOf {w w' : World} (h : Ext w w') (M : Nat → Prop) : Chg M w w' := ⟨h.os, h.tape, h.output, h.size, fun k hk _ => h.block k hk⟩
theorem Chg.ext {w w' : World} (h : Chg (fun _ => False) w w') : Ext w w' := ⟨h.os, h.tape, h.output, h.size, fun k hk => h.block k hk (fun x => x)⟩

def IsBld (w : World) (γ : Gh) (id : Nat) (e eb : TypeId) (l : List UInt8) : Prop :=
  ∃ b v cs p, γ id = (.pointer (some ⟨b, 0, none⟩), v) ∧ w.heap[b]? = some (.cells #[p, v] eb (0, 0)) ∧ (p = .pointer none ∨ p = .pointer (some ⟨b, 0, none⟩)) ∧
    w.ownsRow 0 e 1 v l.length cs ∧ cs = l.map (fun c => Value.int .u8 c.toNat)

def IsNest (w : World) (γ : Gh) (id : Nat) (cells : List AV) (k : Nat) (e : TypeId) (sz : Nat) (rows : List (List AV)) : Prop :=
  ∃ b c t v cs, γ id = (.pointer (some ⟨b, 0, none⟩), v) ∧ w.heap[b]? = some (.cells c t (0, 0)) ∧ c.size = cells.length ∧ c[k]? = some v ∧ (∀ j (h : j < cells.length), ∃ u, c[j]? = some u ∧ FRep cells[j] u) ∧
    w.ownsRow 0 e sz v rows.length cs ∧ 0 < sz ∧ (∀ i (h : i < rows.length), rows[i].length = sz) ∧ ∀ i (h : i < rows.length) j (hj : j < rows[i].length), ∃ x, cs[i * sz + j]? = some x ∧ FRep rows[i][j] x
/-- the cells of a part -/
def PtCells (w : World) (ok : Nat → Prop) (p : PT) (c : Nat → Option Value) : Prop := ∃ hv pv, c 0 = some hv ∧ c 1 = some (.string ⟨p.body.toArray⟩) ∧ c 2 = some (.bool p.many) ∧ c 3 = some pv ∧ RowsAt w ok 2 (fieldRows p.head) hv ∧ PtsRep w ok p.parts pv
def ObjRep (w : World) (N : Nat) (M : Nat → Prop) (γ : Gh) (id : Nat) : AObj → Prop
  | .box cells => ∃ b c e, γ id = (.pointer (some ⟨b, 0, none⟩), undef) ∧ w.heap[b]? = some (.cells c e (0, 0)) ∧ c.size = cells.length ∧
      ∀ j (h : j < cells.length), ∃ v, c[j]? = some v ∧ Rep w N M (fun i => (γ i).1) cells[j] v
  | .rows e sz rows => ∃ v cs, γ id = (v, undef) ∧ w.ownsRow 0 e sz v rows.length cs ∧ 0 < sz ∧ (∀ i (h : i < rows.length), rows[i].length = sz) ∧
      ∀ i (h : i < rows.length) j (hj : j < rows[i].length), ∃ x, cs[i * sz + j]? = some x ∧ FRep rows[i][j] x
  | .pts e l => ∃ v cs, γ id = (v, undef) ∧ w.ownsRow 0 e 4 v l.length cs ∧ ∀ i (h : i < l.length), PtCells w (Still N M true) l[i] (fun j => cs[i * 4 + j]?)
  | .bld e eb l => IsBld w γ id e eb l
  | .iter s pos => ∃ b, γ id = (.pointer (some ⟨b, 0, none⟩), undef) ∧ w.heap[b]? = some (.stringIter ⟨s.toArray⟩ pos)
  | .nest cells k e sz rows => IsNest w γ id cells k e sz rows

/-- the objects of a frame in a world -/
structure HR (C : Cx) (γ : Gh) (H : Heap) (w : World) : Prop where
  obj : ∀ id o, H id = some o → ObjRep w C.N (Mut γ H) γ id o
  disj : ∀ id id' o o' b, H id = some o → H id' = some o' → Blk γ id b → Blk γ id' b → id = id'
  two : ∀ id o b, H id = some o → vblock (γ id).1 = some b → vblock (γ id).2 ≠ some b
  lt : ∀ id o b, H id = some o → Blk γ id b → b < w.heap.size ∧ (C.M0 b ∨ C.w0.heap.size ≤ b)
  chg : Chg C.M0 C.w0 w
  glob : C.G w
  pins : ∀ id o v, C.pin id = some v → H id = some o → (γ id).1 = v
/-- a state of a frame, in a world -/
structure SR (C : Cx) (γ : Gh) (σ : St) (a : Act) (w : World) : Prop extends HR C γ σ.heap w where
  env : ∀ t, Rep w C.N (Mut γ σ.heap) (fun i => (γ i).1) (σ.env t) (a.tmps.getD t undef)
  size : a.tmps.size = C.n
  defers : a.defers = []

section
variable {C : Cx} {γ : Gh} {σ : St} {a : Act} {w : World}
theorem SR.ev (h : SR C γ σ a w) (x : Operand) : Rep w C.N (Mut γ σ.heap) (fun i => (γ i).1) (σ.ev x) (a.eval x) := by
  cases x with
  | tmp t => exact h.env t
  | const v => exact ofConst_rep v
  | global g => exact .gptr _ _ _
  | func f => exact .clo _ _ [] [] rfl (fun i hi => by cases hi)
theorem Mut.lt (h : HR C γ σ.heap w) {b : Nat} (hb : Mut γ σ.heap b) : b < w.heap.size := by
  obtain ⟨id, o, hid, hb⟩ := hb
  exact (h.lt id o b hid hb).1

theorem ownsRow_ext {w w' : World} {B e n size : Nat} {v : Value} {xs : List Value} (h : w.ownsRow B e size v n xs) (hb : ∀ k, vblock v = some k → w'.heap[k]? = w.heap[k]?) : w'.ownsRow B e size v n xs := by
  refine ⟨h.1, ?_⟩
  rcases h.2 with h2 | ⟨g, cap, cur, hv, hg, hh, r⟩
  · exact .inl h2
  · exact .inr ⟨g, cap, cur, hv, hg, by rw [hb g (by rw [hv]; rfl)]; exact hh, r⟩

/-- objects stay as they are when no block of theirs is written -/
theorem ObjRep.mono {w w' : World} {N : Nat} {M M' : Nat → Prop} {γ : Gh} {id : Nat} {o : AObj} (h : ObjRep w N M γ id o) (hw : ∀ b, b < w.heap.size → ¬ M b → w'.heap[b]? = w.heap[b]?) (hM : ∀ b, b < w.heap.size → M' b → M b)
    (hb : ∀ b, Blk γ id b → w'.heap[b]? = w.heap[b]?) : ObjRep w' N M' γ id o := by
  cases o with
  | box cells =>
    obtain ⟨b, c, e, hg, hh, hs, hr⟩ := h
    refine ⟨b, c, e, hg, ?_, hs, fun j hj => ?_⟩
    · rw [hb b (.inl (by rw [hg]; rfl))]; exact hh
    · obtain ⟨v, hv, hr⟩ := hr j hj
      exact ⟨v, hv, hr.mono hw hM (Nat.le_refl _) _ (fun _ _ => rfl)⟩
  | rows e sz rows =>
    obtain ⟨v, cs, hg, hown, hs, hl, hr⟩ := h
    exact ⟨v, cs, hg, ownsRow_ext hown (fun k hk => hb k (.inl (by rw [hg]; exact hk))), hs, hl, hr⟩
  | pts e l =>
    obtain ⟨v, cs, hg, hown, hr⟩ := h
    refine ⟨v, cs, hg, ownsRow_ext hown (fun k hk => hb k (.inl (by rw [hg]; exact hk))), fun i hi => ?_⟩
    obtain ⟨hv, pv, h1, h2, h3, h4, h5, h6⟩ := hr i hi
    exact ⟨hv, pv, h1, h2, h3, h4, h5.mono (fun b o v hok hc => still_mono hM hw (Nat.le_refl _) hok hc), h6.mono (fun b o v hok hc => still_mono hM hw (Nat.le_refl _) hok hc)⟩
  | bld e eb l =>
    obtain ⟨b, v, cs, p, hg, hh, hp, hown, hcs⟩ := h
    refine ⟨b, v, cs, p, hg, ?_, hp, ownsRow_ext hown (fun k hk => hb k (.inr (by rw [hg]; exact hk))), hcs⟩
    rw [hb b (.inl (by rw [hg]; rfl))]; exact hh
  | iter s pos =>
    obtain ⟨b, hg, hh⟩ := h
    exact ⟨b, hg, by rw [hb b (.inl (by rw [hg]; rfl))]; exact hh⟩
  | nest cells k e sz rows =>
    obtain ⟨b, c, t, v, cs, hg, hh, h1, h2, h3, hown, h4⟩ := h
    exact ⟨b, c, t, v, cs, hg, by rw [hb b (.inl (by rw [hg]; rfl))]; exact hh, h1, h2, h3, ownsRow_ext hown (fun k hk => hb k (.inr (by rw [hg]; exact hk))), h4⟩

/-- behind a statement that wrote no block that was there -/
theorem HR.ext {H : Heap} {w' : World} (h : HR C γ H w) (he : Ext w w') : HR C γ H w' where
  obj id o hid := (h.obj id o hid).mono (fun b hb _ => he.block b hb) (fun _ _ x => x) (fun b hb => he.block b (h.lt id o b hid hb).1)
  disj := h.disj
  two := h.two
  lt id o b hid hb := ⟨Nat.lt_of_lt_of_le (h.lt id o b hid hb).1 he.size, (h.lt id o b hid hb).2⟩
  chg := h.chg.trans (chgOf he (fun _ => False)) (fun _ _ x => False.elim x)
  glob := C.hG w w' h.glob (fun k hk => he.block k (Nat.lt_of_lt_of_le (Nat.lt_of_lt_of_le hk C.hn) h.chg.size))
  pins := h.pins
theorem Rep.ext {N : Nat} {M : Nat → Prop} {γ : Nat → Value} {w w' : World} {v : AV} {x : Value} (h : Rep w N M γ v x) (he : Ext w w') : Rep w' N M γ v x :=
  h.mono (fun b hb _ => he.block b hb) (fun _ _ x => x) (Nat.le_refl _) γ (fun _ _ => rfl)
theorem SR.ext {w' : World} (h : SR C γ σ a w) (he : Ext w w') : SR C γ σ a w' :=
  { h.toHR.ext he with env := fun t => (h.env t).ext he, size := h.size, defers := h.defers }

theorem getD_set (xs : Array Value) (d t : Nat) (v : Value) (hd : d < xs.size) : (xs.setIfInBounds d v).getD t undef = if t = d then v else xs.getD t undef := by
  by_cases h : t = d
  · subst h; simp [hd]
  · rw [if_neg h]
    simp only [Array.getD_eq_getD_getElem?]
    rw [Array.getElem?_setIfInBounds_ne (Ne.symm h)]
theorem beq_ne {i d : Nat} (h : i ≠ d) : Nat.beq i d = false := by
  cases hb : Nat.beq i d with
  | true => exact absurd (Nat.eq_of_beq_eq_true hb) h
  | false => rfl
theorem put_env (σ : St) (d i : Nat) (v : AV) : (σ.put d v).env i = if i = d then v else σ.env i := by
  by_cases h : i = d
  · subst h; show (match Nat.beq i i with | true => v | false => σ.env i) = _; rw [Nat.beq_refl, if_pos rfl]
  · show (match Nat.beq i d with | true => v | false => σ.env i) = _; rw [beq_ne h, if_neg h]

/-- a value laid in a slot -/
theorem SR.put (h : SR C γ σ a w) (d : Option Nat) (hd : ∀ t, d = some t → t < C.n) {v : AV} {x : Value} (hx : Rep w C.N (Mut γ σ.heap) (fun i => (γ i).1) v x) : SR C γ (σ.puto d v) (a.put d x) w := by
  cases d with
  | none => exact h
  | some d =>
    have hlt : d < a.tmps.size := by rw [h.size]; exact hd d rfl
    refine { h.toHR with env := fun t => ?_, size := ?_, defers := h.defers }
    · show Rep w C.N (Mut γ σ.heap) _ ((σ.put d v).env t) ((a.tmps.setIfInBounds d x).getD t undef)
      rw [put_env, getD_set _ _ _ _ hlt]
      by_cases ht : t = d
      · rw [if_pos ht, if_pos ht]; exact hx
      · rw [if_neg ht, if_neg ht]; exact h.env t
    · show (a.tmps.setIfInBounds d x).size = C.n
      rw [Array.size_setIfInBounds]; exact h.size
end

/-! code -/
def Lift (C : Cx) (Q : Exit → St → Prop) : Exit → Act → World → Prop := fun e a w => ∃ γ σ, Q e σ ∧ SR C γ σ a w
/-- from every world and frame that the state stands for, the code comes to an exit and a state of which Q holds -/
def Tri (C : Cx) (c : Code) (σ : St) (Q : Exit → St → Prop) : Prop := ∀ γ a w, SR C γ σ a w → c.wp C.P (Lift C Q) a w
def thenQ (N : St → Prop) (Q : Exit → St → Prop) : Exit → St → Prop
  | .normal, σ => N σ
  | e, σ => Q e σ
def blockQ (id : Nat) (Q : Exit → St → Prop) : Exit → St → Prop
  | .exit i, σ => match Nat.beq i id with
    | true => Q .normal σ
    | false => Q (.exit i) σ
  | e, σ => Q e σ

/-- the state σ is also one of the states that τ stands for -/
def Weak (C : Cx) (σ τ : St) : Prop := ∀ γ a w, SR C γ σ a w → ∃ γ', SR C γ' τ a w
theorem Weak.refl (C : Cx) (σ : St) : Weak C σ σ := fun γ _ _ h => ⟨γ, h⟩
theorem Weak.trans {C : Cx} {σ τ υ : St} (h : Weak C σ τ) (k : Weak C τ υ) : Weak C σ υ := fun γ a w s => let ⟨γ', s'⟩ := h γ a w s; k γ' a w s'

section
variable {C : Cx} {σ τ : St} {Q Q' : Exit → St → Prop}
theorem Lift.mono (h : ∀ e σ, Q e σ → Q' e σ) {e : Exit} {a : Act} {w : World} (hl : Lift C Q e a w) : Lift C Q' e a w :=
  let ⟨γ, σ, q, r⟩ := hl; ⟨γ, σ, h e σ q, r⟩
theorem Tri.mono {c : Code} (h : Tri C c σ Q) (hq : ∀ e σ, Q e σ → Q' e σ) : Tri C c σ Q' := fun γ a w s => wp_mono (h γ a w s) (fun _ _ _ hl => hl.mono hq)
theorem Tri.weak {c : Code} (hw : Weak C σ τ) (h : Tri C c τ Q) : Tri C c σ Q := fun γ a w s => let ⟨γ', s'⟩ := hw γ a w s; h γ' a w s'
theorem tri_seq {x y : Code} (h : Tri C x σ (thenQ (fun σ' => Tri C y σ' Q) Q)) : Tri C (.seq x y) σ Q := fun γ a w s => by
  refine wp_seq (wp_mono (h γ a w s) ?_)
  rintro e a w ⟨γ, σ, q, r⟩
  cases e with
  | normal => exact q γ a w r
  | _ => exact ⟨γ, σ, q, r⟩
theorem tri_skip (h : Q .normal σ) : Tri C .skip σ Q := fun γ _ _ s => wp_skip ⟨γ, σ, h, s⟩
theorem tri_ret (h : Q .ret σ) : Tri C .ret σ Q := fun γ _ _ s => wp_ret ⟨γ, σ, h, s⟩
theorem tri_exit {id : Nat} (h : Q (.exit id) σ) : Tri C (.exit id) σ Q := fun γ _ _ s => wp_exit ⟨γ, σ, h, s⟩
theorem tri_cond {c : Operand} {x y : Code} (b : Bool) (hc : σ.ev c = .bool b) (h1 : b = true → Tri C x σ Q) (h2 : b = false → Tri C y σ Q) : Tri C (.cond c x y) σ Q := fun γ a w s => by
  have hv := s.ev c
  rw [hc] at hv
  exact wp_cond_split hv.bool_inv (fun hb => h1 hb γ a w s) (fun hb => h2 hb γ a w s)
theorem tri_true {c : Operand} {x y : Code} (hc : σ.ev c = .bool true) (h1 : Tri C x σ Q) : Tri C (.cond c x y) σ Q := tri_cond true hc (fun _ => h1) (fun h => by cases h)
theorem tri_false {c : Operand} {x y : Code} (hc : σ.ev c = .bool false) (h1 : Tri C y σ Q) : Tri C (.cond c x y) σ Q := tri_cond false hc (fun h => by cases h) (fun _ => h1)
theorem tri_block {id : Nat} {c : Code} (h : Tri C c σ (blockQ id Q)) : Tri C (.block id c) σ Q := fun γ a w s => by
  refine wp_block (wp_mono (h γ a w s) ?_)
  rintro e a w ⟨γ, σ, q, r⟩
  cases e with
  | exit i =>
    show if i = id then Lift C Q .normal a w else Lift C Q (.exit i) a w
    by_cases hi : i = id
    · subst hi
      rw [if_pos rfl]
      refine ⟨γ, σ, ?_, r⟩
      simpa [blockQ] using q
    · rw [if_neg hi]
      refine ⟨γ, σ, ?_, r⟩
      simpa [blockQ, beq_ne hi] using q
  | _ => exact ⟨γ, σ, q, r⟩
def loopQ (C : Cx) {X : Type} (I : X → Prop) (S : X → St) (μ : X → Nat) (m : Nat) (Q : Exit → St → Prop) : Exit → St → Prop
  | .normal, σ => ∃ y, I y ∧ Weak C σ (S y) ∧ μ y < m
  | e, σ => Q e σ
/-- a loop: at each round's head the state is S x for some x of which I holds, and μ x goes down -/
theorem tri_loop {c : Code} {X : Type} (I : X → Prop) (S : X → St) (μ : X → Nat) (x0 : X) (h0 : I x0) (hw : Weak C σ (S x0)) (hr : ∀ x, I x → Tri C c (S x) (loopQ C I S μ (μ x) Q)) : Tri C (.loop c) σ Q := by
  intro γ a w s
  obtain ⟨γ, s⟩ := hw γ a w s
  intro b k cs
  have key : ∀ n x γ a w, μ x = n → I x → SR C γ (S x) a w →
      ∃ e a' w', Lift C Q e a' w' ∧ Arrives C.P (lone (b.at a (.code c :: .inLoop c :: k)) cs w) b k cs e a' w' := by
    intro n
    induction n using Nat.strongRecOn with
    | _ n ih =>
      intro x γ a w hn hI s
      obtain ⟨e, a₁, w₁, hq, harr⟩ := hr x hI γ a w s b (.inLoop c :: k) cs
      cases e with
      | normal =>
        obtain ⟨γ', σ', ⟨y, hy, hwk, hlt⟩, r⟩ := hq
        obtain ⟨γ'', s''⟩ := hwk γ' a₁ w₁ r
        obtain ⟨e₂, a₂, w₂, hq₂, harr₂⟩ := ih (μ y) (hn ▸ hlt) y γ'' a₁ w₁ rfl hy s''
        exact ⟨e₂, a₂, w₂, hq₂, .of_steps (Steps.trans harr (.one step_inLoop)) harr₂⟩
      | exit id => exact ⟨_, a₁, w₁, hq, .pass (x := .inLoop c) rfl (fun _ _ => .inl (by simp)) harr⟩
      | goto l => exact ⟨_, a₁, w₁, hq, .pass (x := .inLoop c) rfl (fun _ _ => .inl (by simp)) harr⟩
      | ret => exact ⟨_, a₁, w₁, hq, .pass (x := .inLoop c) rfl (fun _ _ => .inl (by simp)) harr⟩
      | panic ch => exact ⟨_, a₁, w₁, hq, .pass (x := .inLoop c) rfl (fun _ _ => .inl (by simp)) harr⟩
      | outgrown => exact ⟨_, a₁, w₁, hq, .pass (x := .inLoop c) rfl (fun _ _ => .inl (by simp)) harr⟩
  obtain ⟨e, a', w', hq, harr⟩ := key _ x0 γ a w rfl h0 s
  exact ⟨e, a', w', hq, .of_steps (.one step_loop) harr⟩
end
end Go.Proofs.YtignjjnflcpiiaaDoor
