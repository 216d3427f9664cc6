import Derived.WalkKit
import Derived.Orders
import Derived.Below
import Derived.Laws.AppendOwn
import Derived.WalkLawsBesides
import Derived.WalkSpells
import Derived.Laws.Small
import Derived.Lib.Strings
import Derived.Lib.UnsafeStr
import Derived.Lib.IndexBytes
set_option linter.unusedVariables false
set_option linter.unusedSimpArgs false
set_option maxHeartbeats 1000000
namespace Go.Proofs.YtignjjnflcpiiaaGreatDoor
open Go.RowKit
inductive PT where
  | mk (head : List (List UInt8 × List UInt8)) (body : List UInt8) (many : Bool) (parts : List PT)
def PT.head : PT → List (List UInt8 × List UInt8) | .mk h _ _ _ => h
def PT.body : PT → List UInt8 | .mk _ b _ _ => b
def PT.many : PT → Bool | .mk _ _ m _ => m
def PT.parts : PT → List PT | .mk _ _ _ p => p
inductive AV where
  | any
  | bool (b : Bool)
  | int (k : IntKind) (n : Int)
  | str (s : List UInt8)
  | nilp
  | ptr (id fo : Nat)
  | eptr (id sz i fo : Nat)
  | gptr (g off : Nat)
  | rptr (fr : Bool) (cells : List AV)
  | nils
  | nocap
  | sl (id : Nat)
  | sub (id sz off n : Nat)
  | ro (fr : Bool) (sz : Nat) (rows : List (List AV))
  | pts (fr : Bool) (l : List PT)
  | nili
  | iface (t : TypeId) (v : AV)
  | agg (l : List AV)
  | tup (l : List AV)
  | clo (f : FuncId) (caps : List AV)
mutual
def AV.ment (t : Nat) : AV → Bool
  | .ptr id _ | .eptr id _ _ _ | .sl id | .sub id _ _ _ => Nat.beq id t
  | .iface _ v => v.ment t
  | .agg l | .tup l | .clo _ l => AV.mentL t l
  | _ => false
def AV.mentL (t : Nat) : List AV → Bool
  | [] => false
  | v :: r => match v.ment t with
    | true => true
    | false => AV.mentL t r
end
theorem AV.mentL_mem {t : Nat} {v : AV} : ∀ {l : List AV}, v ∈ l → v.ment t = true → AV.mentL t l = true
  | x :: r, h, hv => by
    rw [AV.mentL]
    cases hx : x.ment t with
    | true => rfl
    | false =>
      rcases List.mem_cons.1 h with rfl | h
      · rw [hx] at hv; cases hv
      · exact AV.mentL_mem h hv
def AV.kill (t : Nat) (v : AV) : AV := match v.ment t with
  | true => .any
  | false => v
def g0 : Nat → Value := fun _ => undef
inductive FRep : AV → Value → Prop
  | any (v : Value) : FRep .any v
  | bool (b : Bool) : FRep (.bool b) (.bool b)
  | int (k : IntKind) (n : Int) : FRep (.int k n) (.int k n)
  | str (s : List UInt8) : FRep (.str s) (.string ⟨s.toArray⟩)
def RowsAt (w : World) (ok : Nat → Prop) (sz : Nat) (rows : List (List AV)) (v : Value) : Prop :=
  (rows = [] ∧ ∃ a cap, v = .slice a 0 cap ∧ (a = none → cap = 0)) ∨
  ∃ (b o cap : Nat) (cs : Nat → Nat → Value), v = .slice (some ⟨b, o, none⟩) rows.length cap ∧ ok b ∧ 0 < rows.length ∧ 0 < sz ∧ rows.length ≤ cap ∧
    (∀ i, i < rows.length → ∀ j, j < sz → w.cell? ⟨b, o + i * sz + j, none⟩ = some (cs i j)) ∧ (∀ i (h : i < rows.length), rows[i].length = sz) ∧
    ∀ i (h : i < rows.length) j (hj : j < rows[i].length), FRep rows[i][j] (cs i j)
def fieldRows (l : List (List UInt8 × List UInt8)) : List (List AV) := l.map fun f => [.str f.1, .str f.2]
inductive PtsRep (w : World) (ok : Nat → Prop) : List PT → Value → Prop
  | nil (a : Option Addr) (cap : Nat) (ha : a = none → cap = 0) : PtsRep w ok [] (.slice a 0 cap)
  | mk (l : List PT) (b o cap : Nat) (hv pv : Nat → Value) (hok : ok b) (h0 : 0 < l.length) (hcap : l.length ≤ cap)
      (hc : ∀ i (h : i < l.length), w.cell? ⟨b, o + i * 4, none⟩ = some (hv i) ∧ w.cell? ⟨b, o + i * 4 + 1, none⟩ = some (.string ⟨l[i].body.toArray⟩) ∧
        w.cell? ⟨b, o + i * 4 + 2, none⟩ = some (.bool l[i].many) ∧ w.cell? ⟨b, o + i * 4 + 3, none⟩ = some (pv i))
      (hh : ∀ i (h : i < l.length), RowsAt w ok 2 (fieldRows l[i].head) (hv i)) (hp : ∀ i (h : i < l.length), PtsRep w ok l[i].parts (pv i)) : PtsRep w ok l (.slice (some ⟨b, o, none⟩) l.length cap)
def Still (N : Nat) (M : Nat → Prop) (fr : Bool) (b : Nat) : Prop := ¬ M b ∧ (fr = true → N ≤ b)
inductive Rep (w : World) (N : Nat) (M : Nat → Prop) : (Nat → Value) → AV → Value → Prop
  | any (γ : Nat → Value) (v : Value) : Rep w N M γ .any v
  | bool (γ : Nat → Value) (b : Bool) : Rep w N M γ (.bool b) (.bool b)
  | int (γ : Nat → Value) (k : IntKind) (n : Int) : Rep w N M γ (.int k n) (.int k n)
  | str (γ : Nat → Value) (s : List UInt8) : Rep w N M γ (.str s) (.string ⟨s.toArray⟩)
  | nilp (γ : Nat → Value) : Rep w N M γ .nilp (.pointer none)
  | ptr (γ : Nat → Value) (id fo b : Nat) (h : γ id = .pointer (some ⟨b, 0, none⟩)) : Rep w N M γ (.ptr id fo) (.pointer (some ⟨b, fo, none⟩))
  | eptr (γ : Nat → Value) (id sz i fo g n cap : Nat) (h : γ id = .slice (some ⟨g, 0, none⟩) n cap) : Rep w N M γ (.eptr id sz i fo) (.pointer (some ⟨g, i * sz + fo, none⟩))
  | gptr (γ : Nat → Value) (g off : Nat) : Rep w N M γ (.gptr g off) (.pointer (some ⟨g, off, none⟩))
  | rptr (γ : Nat → Value) (fr : Bool) (cells : List AV) (b o : Nat) (cs : Nat → Value) (hok : Still N M fr b) (h0 : 0 < cells.length) (hc : ∀ j, j < cells.length → w.cell? ⟨b, o + j, none⟩ = some (cs j))
      (hr : ∀ j (h : j < cells.length), Rep w N M g0 cells[j] (cs j)) : Rep w N M γ (.rptr fr cells) (.pointer (some ⟨b, o, none⟩))
  | nils (γ : Nat → Value) : Rep w N M γ .nils (.slice none 0 0)
  | nocap (γ : Nat → Value) (a : Option Addr) : Rep w N M γ .nocap (.slice a 0 0)
  | sl (γ : Nat → Value) (id : Nat) : Rep w N M γ (.sl id) (γ id)
  | sub (γ : Nat → Value) (id sz off n g len cap : Nat) (h : γ id = .slice (some ⟨g, 0, none⟩) len cap) (ho : off + n ≤ len) (hc : len ≤ cap) : Rep w N M γ (.sub id sz off n) (.slice (some ⟨g, off * sz, none⟩) n (cap - off))
  | ro (γ : Nat → Value) (fr : Bool) (sz : Nat) (rows : List (List AV)) (v : Value) (h : RowsAt w (Still N M fr) sz rows v) : Rep w N M γ (.ro fr sz rows) v
  | pts (γ : Nat → Value) (fr : Bool) (l : List PT) (v : Value) (h : PtsRep w (Still N M fr) l v) : Rep w N M γ (.pts fr l) v
  | nili (γ : Nat → Value) : Rep w N M γ .nili .nilIface
  | iface (γ : Nat → Value) (t : TypeId) (v : AV) (x : Value) (h : Rep w N M γ v x) : Rep w N M γ (.iface t v) (.iface t x)
  | agg (γ : Nat → Value) (l : List AV) (xs : List Value) (hl : xs.length = l.length) (h : ∀ i (hi : i < l.length) (hx : i < xs.length), Rep w N M γ l[i] xs[i]) : Rep w N M γ (.agg l) (.agg xs.toArray)
  | tup (γ : Nat → Value) (l : List AV) (xs : List Value) (hl : xs.length = l.length) (h : ∀ i (hi : i < l.length) (hx : i < xs.length), Rep w N M γ l[i] xs[i]) : Rep w N M γ (.tup l) (.tuple xs.toArray)
  | clo (γ : Nat → Value) (f : FuncId) (l : List AV) (xs : List Value) (hl : xs.length = l.length) (h : ∀ i (hi : i < l.length) (hx : i < xs.length), Rep w N M γ l[i] xs[i]) : Rep w N M γ (.clo f l) (.func (.func f) #[] xs.toArray)
section
variable {w : World} {N : Nat} {M : Nat → Prop} {γ : Nat → Value}
theorem Rep.strB (b : ByteArray) : Rep w N M γ (.str b.data.toList) (.string b) := by
  have h := Rep.str (w := w) (N := N) (M := M) γ b.data.toList
  rw [show (⟨b.data.toList.toArray⟩ : ByteArray) = b by cases b; simp] at h
  exact h
theorem Rep.bool_inv {b : Bool} {v : Value} (h : Rep w N M γ (.bool b) v) : v = .bool b := by cases h; rfl
theorem Rep.int_inv {k : IntKind} {n : Int} {v : Value} (h : Rep w N M γ (.int k n) v) : v = .int k n := by cases h; rfl
theorem Rep.str_inv {s : List UInt8} {v : Value} (h : Rep w N M γ (.str s) v) : v = .string ⟨s.toArray⟩ := by cases h; rfl
theorem Rep.nils_inv {v : Value} (h : Rep w N M γ .nils v) : v = .slice none 0 0 := by cases h; rfl
theorem Rep.nili_inv {v : Value} (h : Rep w N M γ .nili v) : v = .nilIface := by cases h; rfl
theorem Rep.ptr_inv {id fo : Nat} {v : Value} (h : Rep w N M γ (.ptr id fo) v) : ∃ b, γ id = .pointer (some ⟨b, 0, none⟩) ∧ v = .pointer (some ⟨b, fo, none⟩) := by
  cases h with | ptr _ _ _ b h => exact ⟨b, h, rfl⟩
theorem Rep.gptr_inv {g o : Nat} {v : Value} (h : Rep w N M γ (.gptr g o) v) : v = .pointer (some ⟨g, o, none⟩) := by cases h; rfl
theorem Rep.sl_inv {id : Nat} {v : Value} (h : Rep w N M γ (.sl id) v) : v = γ id := by cases h; rfl
theorem Rep.eptr_inv {id sz i fo : Nat} {v : Value} (h : Rep w N M γ (.eptr id sz i fo) v) : ∃ g n cap, γ id = .slice (some ⟨g, 0, none⟩) n cap ∧ v = .pointer (some ⟨g, i * sz + fo, none⟩) := by
  cases h with | eptr _ _ _ _ _ g n cap h => exact ⟨g, n, cap, h, rfl⟩
theorem Rep.sub_inv {id sz off n : Nat} {v : Value} (h : Rep w N M γ (.sub id sz off n) v) : ∃ g len cap, γ id = .slice (some ⟨g, 0, none⟩) len cap ∧ off + n ≤ len ∧ len ≤ cap ∧ v = .slice (some ⟨g, off * sz, none⟩) n (cap - off) := by
  cases h with | sub _ _ _ _ _ g len cap h ho hc => exact ⟨g, len, cap, h, ho, hc, rfl⟩
theorem Rep.rptr_inv {fr : Bool} {cells : List AV} {v : Value} (h : Rep w N M γ (.rptr fr cells) v) : ∃ (b o : Nat) (cs : Nat → Value), (Still N M fr b ∧ 0 < cells.length ∧ (∀ j, j < cells.length → w.cell? ⟨b, o + j, none⟩ = some (cs j)) ∧ ∀ j (h : j < cells.length), Rep w N M g0 cells[j] (cs j)) ∧ v = .pointer (some ⟨b, o, none⟩) := by
  cases h with | rptr _ _ _ b o cs h1 h2 h3 h4 => exact ⟨b, o, cs, ⟨h1, h2, h3, h4⟩, rfl⟩
theorem Rep.ro_inv {fr : Bool} {sz : Nat} {rows : List (List AV)} {v : Value} (h : Rep w N M γ (.ro fr sz rows) v) : RowsAt w (Still N M fr) sz rows v := by cases h; assumption
theorem Rep.pts_inv {fr : Bool} {l : List PT} {v : Value} (h : Rep w N M γ (.pts fr l) v) : PtsRep w (Still N M fr) l v := by cases h; assumption
theorem Rep.iface_inv {t : TypeId} {v : AV} {x : Value} (h : Rep w N M γ (.iface t v) x) : ∃ y, x = .iface t y ∧ Rep w N M γ v y := by
  cases h with | iface _ _ _ y h => exact ⟨y, rfl, h⟩
theorem Rep.agg_inv {l : List AV} {x : Value} (h : Rep w N M γ (.agg l) x) : ∃ xs : List Value, x = .agg xs.toArray ∧ xs.length = l.length ∧ ∀ i (hi : i < l.length) (hx : i < xs.length), Rep w N M γ l[i] xs[i] := by
  cases h with | agg _ _ xs hl h => exact ⟨xs, rfl, hl, h⟩
theorem Rep.tup_inv {l : List AV} {x : Value} (h : Rep w N M γ (.tup l) x) : ∃ xs : List Value, x = .tuple xs.toArray ∧ xs.length = l.length ∧ ∀ i (hi : i < l.length) (hx : i < xs.length), Rep w N M γ l[i] xs[i] := by
  cases h with | tup _ _ xs hl h => exact ⟨xs, rfl, hl, h⟩
theorem Rep.clo_inv {f : FuncId} {l : List AV} {x : Value} (h : Rep w N M γ (.clo f l) x) : ∃ xs : List Value, x = .func (.func f) #[] xs.toArray ∧ xs.length = l.length ∧ ∀ i (hi : i < l.length) (hx : i < xs.length), Rep w N M γ l[i] xs[i] := by
  cases h with | clo _ _ _ xs hl h => exact ⟨xs, rfl, hl, h⟩
theorem still_mono {w w' : World} {N N' : Nat} {M M' : Nat → Prop} (hM : ∀ b, b < w.heap.size → M' b → M b) (hw : ∀ b, b < w.heap.size → ¬ M b → w'.heap[b]? = w.heap[b]?) (hN : N' ≤ N) {fr : Bool} {b o : Nat} {v : Value} (hok : Still N M fr b) (hc : w.cell? ⟨b, o, none⟩ = some v) :
    Still N' M' fr b ∧ w'.cell? ⟨b, o, none⟩ = some v := by
  have hlt : b < w.heap.size := World.block_lt_of_cell? w ⟨b, o, none⟩ hc
  refine ⟨⟨fun h => hok.1 (hM b hlt h), fun h => Nat.le_trans hN (hok.2 h)⟩, ?_⟩
  rw [World.cell?_of_block (w := w) (a := ⟨b, o, none⟩) (hw b hlt hok.1)]
  exact hc
theorem RowsAt.mono {w w' : World} {ok ok' : Nat → Prop} (hk : ∀ b o v, ok b → w.cell? ⟨b, o, none⟩ = some v → ok' b ∧ w'.cell? ⟨b, o, none⟩ = some v) {sz : Nat} {rows : List (List AV)} {v : Value} (h : RowsAt w ok sz rows v) : RowsAt w' ok' sz rows v := by
  rcases h with h | ⟨b, o, cap, cs, hv, hok, h0, hs, hcap, hc, hl, hr⟩
  · exact .inl h
  · exact .inr ⟨b, o, cap, cs, hv, (hk b _ _ hok (hc 0 h0 0 hs)).1, h0, hs, hcap, fun i hi j hj => (hk b _ _ hok (hc i hi j hj)).2, hl, hr⟩
theorem PtsRep.mono {w w' : World} {ok ok' : Nat → Prop} (hk : ∀ b o v, ok b → w.cell? ⟨b, o, none⟩ = some v → ok' b ∧ w'.cell? ⟨b, o, none⟩ = some v) {l : List PT} {v : Value} (h : PtsRep w ok l v) : PtsRep w' ok' l v := by
  induction h with
  | nil a cap ha => exact .nil a cap ha
  | mk l b o cap hv pv hok h0 hcap hc hh hp ih =>
    refine .mk l b o cap hv pv (hk b _ _ hok (hc 0 h0).1).1 h0 hcap (fun i hi => ?_) (fun i hi => (hh i hi).mono hk) ih
    obtain ⟨h1, h2, h3, h4⟩ := hc i hi
    exact ⟨(hk b _ _ hok h1).2, (hk b _ _ hok h2).2, (hk b _ _ hok h3).2, (hk b _ _ hok h4).2⟩
theorem Rep.mono {w' : World} {N' : Nat} {M' : Nat → Prop} {v : AV} {x : Value} (h : Rep w N M γ v x) (hw : ∀ b, b < w.heap.size → ¬ M b → w'.heap[b]? = w.heap[b]?) (hM : ∀ b, b < w.heap.size → M' b → M b) (hN : N' ≤ N) :
    ∀ γ' : Nat → Value, (∀ id, v.ment id = true → γ' id = γ id) → Rep w' N' M' γ' v x := by
  induction h with
  | any γ v => exact fun γ' _ => .any _ _
  | bool γ b => exact fun γ' _ => .bool _ _
  | int γ k n => exact fun γ' _ => .int _ _ _
  | str γ s => exact fun γ' _ => .str _ _
  | nilp γ => exact fun γ' _ => .nilp _
  | ptr γ id fo b h => exact fun γ' hg => .ptr _ _ _ _ ((hg id (Nat.beq_refl _)).trans h)
  | eptr γ id sz i fo g n cap h => exact fun γ' hg => .eptr _ _ _ _ _ _ _ _ ((hg id (Nat.beq_refl _)).trans h)
  | sub γ id sz off n g len cap h ho hc => exact fun γ' hg => .sub _ _ _ _ _ _ _ _ ((hg id (Nat.beq_refl _)).trans h) ho hc
  | gptr γ g off => exact fun γ' _ => .gptr _ _ _
  | rptr γ fr cells b o cs hok h0 hc hr ih =>
    intro γ' _
    exact .rptr _ _ _ _ _ cs (still_mono hM hw hN hok (hc 0 h0)).1 h0 (fun j hj => (still_mono hM hw hN hok (hc j hj)).2) (fun j hj => ih j hj g0 (fun _ _ => rfl))
  | nils γ => exact fun γ' _ => .nils _
  | nocap γ a => exact fun γ' _ => .nocap _ _
  | sl γ id => intro γ' hg; rw [← hg id (Nat.beq_refl _)]; exact .sl _ _
  | ro γ fr sz rows v h => exact fun γ' _ => .ro _ _ _ _ _ (h.mono (fun b o v hok hc => still_mono hM hw hN hok hc))
  | pts γ fr l v h => exact fun γ' _ => .pts _ _ _ _ (h.mono (fun b o v hok hc => still_mono hM hw hN hok hc))
  | nili γ => exact fun γ' _ => .nili _
  | iface γ t v x h ih => exact fun γ' hg => .iface _ _ _ _ (ih γ' hg)
  | agg γ l xs hl h ih => exact fun γ' hg => .agg _ _ _ hl (fun i hi hx => ih i hi hx γ' (fun id hid => hg id (by rw [AV.ment]; exact AV.mentL_mem (List.getElem_mem hi) hid)))
  | tup γ l xs hl h ih => exact fun γ' hg => .tup _ _ _ hl (fun i hi hx => ih i hi hx γ' (fun id hid => hg id (by rw [AV.ment]; exact AV.mentL_mem (List.getElem_mem hi) hid)))
  | clo γ f l xs hl h ih => exact fun γ' hg => .clo _ _ _ _ hl (fun i hi hx => ih i hi hx γ' (fun id hid => hg id (by rw [AV.ment]; exact AV.mentL_mem (List.getElem_mem hi) hid)))
end
inductive AObj where
  | box (cells : List AV)
  | rows (e : TypeId) (sz : Nat) (rows : List (List AV))
  | pts (fr : Bool) (e : TypeId) (l : List PT)
  | bld (e eb : TypeId) (l : List UInt8)
  | iter (s : List UInt8) (pos : Nat)
  | nest (cells : List AV) (k : Nat) (e : TypeId) (sz : Nat) (rows : List (List AV))
abbrev Heap := Nat → Option AObj
structure St where
  env : Nat → AV
  heap : Heap
def ofConst : Value → AV
  | .bool b => .bool b
  | .int k n => .int k n
  | .string s => .str s.data.toList
  | .pointer none => .nilp
  | .slice none 0 0 => .nils
  | .nilIface => .nili
  | _ => .any
def St.ev (σ : St) : Operand → AV
  | .tmp t => σ.env t
  | .const v => ofConst v
  | .global g => .gptr g 0
  | .func f => .clo f []
def St.put (σ : St) (d : Nat) (v : AV) : St := ⟨fun i => match Nat.beq i d with
  | true => v
  | false => σ.env i, σ.heap⟩
def St.puto (σ : St) (d : Option Nat) (v : AV) : St := match d with
  | some d => σ.put d v
  | none => σ
def St.set (σ : St) (id : Nat) (o : Option AObj) : St := ⟨σ.env, fun i => match Nat.beq i id with
  | true => o
  | false => σ.heap i⟩
def AObj.kill (t : Nat) : AObj → AObj
  | .box cells => .box (cells.map (AV.kill t))
  | o => o
def St.kill (σ : St) (t : Nat) : St := ⟨fun i => (σ.env i).kill t, fun id => match Nat.beq id t with
  | true => none
  | false => (σ.heap id).map (AObj.kill t)⟩
theorem ofConst_rep {w : World} {N : Nat} {M : Nat → Prop} {γ : Nat → Value} (v : Value) : Rep w N M γ (ofConst v) v := by
  unfold ofConst
  split
  · exact .bool _ _
  · exact .int _ _ _
  · exact Rep.strB _
  · exact .nilp _
  · exact .nils _
  · exact .nili _
  · exact .any _ _
def vblock : Value → Option Nat
  | .pointer (some a) => some a.block
  | .slice (some a) _ _ => some a.block
  | _ => none
abbrev Gh := Nat → Value × Value
def Blk (γ : Gh) (id b : Nat) : Prop := vblock (γ id).1 = some b ∨ vblock (γ id).2 = some b
structure Gx where
  P : Program
  G : World → Prop
  nG : Nat
  hG : ∀ w w' : World, G w → (∀ k, k < nG → w'.heap[k]? = w.heap[k]?) → G w'
  mixed : P.follows .mixedOrders = true
structure Cx extends Gx where
  n : Nat
  w0 : World
  M0 : Nat → Prop
  pin : Nat → Option Value
  hn : nG ≤ w0.heap.size
  hM : ∀ b, M0 b → nG ≤ b
abbrev Cx.N (C : Cx) : Nat := C.w0.heap.size
def Mut (γ : Gh) (H : Heap) (b : Nat) : Prop := ∃ id o, H id = some o ∧ Blk γ id b
structure Chg (M : Nat → Prop) (w w' : World) : Prop where
  os : w'.os = w.os
  tape : w'.tape = w.tape
  output : w'.output = w.output
  size : w.heap.size ≤ w'.heap.size
  block : ∀ k, k < w.heap.size → ¬ M k → w'.heap[k]? = w.heap[k]?
theorem Chg.refl (M : Nat → Prop) (w : World) : Chg M w w := ⟨rfl, rfl, rfl, Nat.le_refl _, fun _ _ _ => rfl⟩
theorem Chg.trans {M : Nat → Prop} {a b c : World} (h : Chg M a b) {M' : Nat → Prop} (k : Chg M' b c) (hM : ∀ x, x < a.heap.size → M' x → M x) : Chg M a c :=
  ⟨k.os.trans h.os, k.tape.trans h.tape, k.output.trans h.output, Nat.le_trans h.size k.size, fun i hi hm => (k.block i (Nat.lt_of_lt_of_le hi h.size) (fun hx => hm (hM i hi hx))).trans (h.block i hi hm)⟩
abbrev Ext (w w' : World) : Prop := Below w.heap.size w w'
theorem chgOf {w w' : World} (h : Ext w w') (M : Nat → Prop) : Chg M w w' := ⟨h.os, h.tape, h.output, h.size, fun k hk _ => h.block k hk⟩
theorem Chg.ext {w w' : World} (h : Chg (fun _ => False) w w') : Ext w w' := ⟨h.os, h.tape, h.output, h.size, fun k hk => h.block k hk (fun x => x)⟩
def IsBld (w : World) (γ : Gh) (id : Nat) (e eb : TypeId) (l : List UInt8) : Prop :=
  ∃ b v cs p, γ id = (.pointer (some ⟨b, 0, none⟩), v) ∧ w.heap[b]? = some (.cells #[p, v] eb (0, 0)) ∧ (p = .pointer none ∨ p = .pointer (some ⟨b, 0, none⟩)) ∧
    w.ownsRow 0 e 1 v l.length cs ∧ cs = l.map (fun c => Value.int .u8 c.toNat)
def IsNest (w : World) (γ : Gh) (id : Nat) (cells : List AV) (k : Nat) (e : TypeId) (sz : Nat) (rows : List (List AV)) : Prop :=
  ∃ b c t v cs, γ id = (.pointer (some ⟨b, 0, none⟩), v) ∧ w.heap[b]? = some (.cells c t (0, 0)) ∧ c.size = cells.length ∧ c[k]? = some v ∧ (∀ j (h : j < cells.length), ∃ u, c[j]? = some u ∧ FRep cells[j] u) ∧
    w.ownsRow 0 e sz v rows.length cs ∧ 0 < sz ∧ (∀ i (h : i < rows.length), rows[i].length = sz) ∧ ∀ i (h : i < rows.length) j (hj : j < rows[i].length), ∃ x, cs[i * sz + j]? = some x ∧ FRep rows[i][j] x
def PtCells (w : World) (ok : Nat → Prop) (p : PT) (c : Nat → Option Value) : Prop := ∃ hv pv, c 0 = some hv ∧ c 1 = some (.string ⟨p.body.toArray⟩) ∧ c 2 = some (.bool p.many) ∧ c 3 = some pv ∧ RowsAt w ok 2 (fieldRows p.head) hv ∧ PtsRep w ok p.parts pv
def ObjRep (w : World) (N : Nat) (M : Nat → Prop) (γ : Gh) (id : Nat) : AObj → Prop
  | .box cells => ∃ b c e, γ id = (.pointer (some ⟨b, 0, none⟩), undef) ∧ w.heap[b]? = some (.cells c e (0, 0)) ∧ c.size = cells.length ∧
      ∀ j (h : j < cells.length), ∃ v, c[j]? = some v ∧ Rep w N M (fun i => (γ i).1) cells[j] v
  | .rows e sz rows => ∃ v cs, γ id = (v, undef) ∧ w.ownsRow 0 e sz v rows.length cs ∧ 0 < sz ∧ (∀ i (h : i < rows.length), rows[i].length = sz) ∧
      ∀ i (h : i < rows.length) j (hj : j < rows[i].length), ∃ x, cs[i * sz + j]? = some x ∧ FRep rows[i][j] x
  | .pts fr e l => ∃ v cs, γ id = (v, undef) ∧ w.ownsRow 0 e 4 v l.length cs ∧ ∀ i (h : i < l.length), PtCells w (Still N M fr) l[i] (fun j => cs[i * 4 + j]?)
  | .bld e eb l => IsBld w γ id e eb l
  | .iter s pos => ∃ b, γ id = (.pointer (some ⟨b, 0, none⟩), undef) ∧ w.heap[b]? = some (.stringIter ⟨s.toArray⟩ pos)
  | .nest cells k e sz rows => IsNest w γ id cells k e sz rows
structure HR (C : Cx) (γ : Gh) (H : Heap) (w : World) : Prop where
  obj : ∀ id o, H id = some o → ObjRep w C.N (Mut γ H) γ id o
  disj : ∀ id id' o o' b, H id = some o → H id' = some o' → Blk γ id b → Blk γ id' b → id = id'
  two : ∀ id o b, H id = some o → vblock (γ id).1 = some b → vblock (γ id).2 ≠ some b
  lt : ∀ id o b, H id = some o → Blk γ id b → b < w.heap.size ∧ (C.M0 b ∨ C.w0.heap.size ≤ b)
  chg : Chg C.M0 C.w0 w
  glob : C.G w
  pins : ∀ id o v, C.pin id = some v → H id = some o → (γ id).1 = v
structure SR (C : Cx) (γ : Gh) (σ : St) (a : Act) (w : World) : Prop extends HR C γ σ.heap w where
  env : ∀ t, Rep w C.N (Mut γ σ.heap) (fun i => (γ i).1) (σ.env t) (a.tmps.getD t undef)
  size : a.tmps.size = C.n
  defers : a.defers = []
section
variable {C : Cx} {γ : Gh} {σ : St} {a : Act} {w : World}
theorem SR.ev (h : SR C γ σ a w) (x : Operand) : Rep w C.N (Mut γ σ.heap) (fun i => (γ i).1) (σ.ev x) (a.eval x) := by
  cases x with
  | tmp t => exact h.env t
  | const v => exact ofConst_rep v
  | global g => exact .gptr _ _ _
  | func f => exact .clo _ _ [] [] rfl (fun i hi => by cases hi)
theorem Mut.lt (h : HR C γ σ.heap w) {b : Nat} (hb : Mut γ σ.heap b) : b < w.heap.size := by
  obtain ⟨id, o, hid, hb⟩ := hb
  exact (h.lt id o b hid hb).1
theorem ownsRow_ext {w w' : World} {B e n size : Nat} {v : Value} {xs : List Value} (h : w.ownsRow B e size v n xs) (hb : ∀ k, vblock v = some k → w'.heap[k]? = w.heap[k]?) : w'.ownsRow B e size v n xs := by
  refine ⟨h.1, ?_⟩
  rcases h.2 with h2 | ⟨g, cap, cur, hv, hg, hh, r⟩
  · exact .inl h2
  · exact .inr ⟨g, cap, cur, hv, hg, by rw [hb g (by rw [hv]; rfl)]; exact hh, r⟩
theorem ObjRep.mono {w w' : World} {N : Nat} {M M' : Nat → Prop} {γ : Gh} {id : Nat} {o : AObj} (h : ObjRep w N M γ id o) (hw : ∀ b, b < w.heap.size → ¬ M b → w'.heap[b]? = w.heap[b]?) (hM : ∀ b, b < w.heap.size → M' b → M b)
    (hb : ∀ b, Blk γ id b → w'.heap[b]? = w.heap[b]?) : ObjRep w' N M' γ id o := by
  cases o with
  | box cells =>
    obtain ⟨b, c, e, hg, hh, hs, hr⟩ := h
    refine ⟨b, c, e, hg, ?_, hs, fun j hj => ?_⟩
    · rw [hb b (.inl (by rw [hg]; rfl))]; exact hh
    · obtain ⟨v, hv, hr⟩ := hr j hj
      exact ⟨v, hv, hr.mono hw hM (Nat.le_refl _) _ (fun _ _ => rfl)⟩
  | rows e sz rows =>
    obtain ⟨v, cs, hg, hown, hs, hl, hr⟩ := h
    exact ⟨v, cs, hg, ownsRow_ext hown (fun k hk => hb k (.inl (by rw [hg]; exact hk))), hs, hl, hr⟩
  | pts fr e l =>
    obtain ⟨v, cs, hg, hown, hr⟩ := h
    refine ⟨v, cs, hg, ownsRow_ext hown (fun k hk => hb k (.inl (by rw [hg]; exact hk))), fun i hi => ?_⟩
    obtain ⟨hv, pv, h1, h2, h3, h4, h5, h6⟩ := hr i hi
    exact ⟨hv, pv, h1, h2, h3, h4, h5.mono (fun b o v hok hc => still_mono hM hw (Nat.le_refl _) hok hc), h6.mono (fun b o v hok hc => still_mono hM hw (Nat.le_refl _) hok hc)⟩
  | bld e eb l =>
    obtain ⟨b, v, cs, p, hg, hh, hp, hown, hcs⟩ := h
    refine ⟨b, v, cs, p, hg, ?_, hp, ownsRow_ext hown (fun k hk => hb k (.inr (by rw [hg]; exact hk))), hcs⟩
    rw [hb b (.inl (by rw [hg]; rfl))]; exact hh
  | iter s pos =>
    obtain ⟨b, hg, hh⟩ := h
    exact ⟨b, hg, by rw [hb b (.inl (by rw [hg]; rfl))]; exact hh⟩
  | nest cells k e sz rows =>
    obtain ⟨b, c, t, v, cs, hg, hh, h1, h2, h3, hown, h4⟩ := h
    exact ⟨b, c, t, v, cs, hg, by rw [hb b (.inl (by rw [hg]; rfl))]; exact hh, h1, h2, h3, ownsRow_ext hown (fun k hk => hb k (.inr (by rw [hg]; exact hk))), h4⟩
theorem HR.ext {H : Heap} {w' : World} (h : HR C γ H w) (he : Ext w w') : HR C γ H w' where
  obj id o hid := (h.obj id o hid).mono (fun b hb _ => he.block b hb) (fun _ _ x => x) (fun b hb => he.block b (h.lt id o b hid hb).1)
  disj := h.disj
  two := h.two
  lt id o b hid hb := ⟨Nat.lt_of_lt_of_le (h.lt id o b hid hb).1 he.size, (h.lt id o b hid hb).2⟩
  chg := h.chg.trans (chgOf he (fun _ => False)) (fun _ _ x => False.elim x)
  glob := C.hG w w' h.glob (fun k hk => he.block k (Nat.lt_of_lt_of_le (Nat.lt_of_lt_of_le hk C.hn) h.chg.size))
  pins := h.pins
theorem Rep.ext {N : Nat} {M : Nat → Prop} {γ : Nat → Value} {w w' : World} {v : AV} {x : Value} (h : Rep w N M γ v x) (he : Ext w w') : Rep w' N M γ v x :=
  h.mono (fun b hb _ => he.block b hb) (fun _ _ x => x) (Nat.le_refl _) γ (fun _ _ => rfl)
theorem SR.ext {w' : World} (h : SR C γ σ a w) (he : Ext w w') : SR C γ σ a w' :=
  { h.toHR.ext he with env := fun t => (h.env t).ext he, size := h.size, defers := h.defers }
theorem getD_set (xs : Array Value) (d t : Nat) (v : Value) (hd : d < xs.size) : (xs.setIfInBounds d v).getD t undef = if t = d then v else xs.getD t undef := by
  by_cases h : t = d
  · subst h; simp [hd]
  · rw [if_neg h]
    simp only [Array.getD_eq_getD_getElem?]
    rw [Array.getElem?_setIfInBounds_ne (Ne.symm h)]
theorem beq_ne {i d : Nat} (h : i ≠ d) : Nat.beq i d = false := by
  cases hb : Nat.beq i d with
  | true => exact absurd (Nat.eq_of_beq_eq_true hb) h
  | false => rfl
theorem put_env (σ : St) (d i : Nat) (v : AV) : (σ.put d v).env i = if i = d then v else σ.env i := by
  by_cases h : i = d
  · subst h; show (match Nat.beq i i with | true => v | false => σ.env i) = _; rw [Nat.beq_refl, if_pos rfl]
  · show (match Nat.beq i d with | true => v | false => σ.env i) = _; rw [beq_ne h, if_neg h]
theorem SR.put (h : SR C γ σ a w) (d : Option Nat) (hd : ∀ t, d = some t → t < C.n) {v : AV} {x : Value} (hx : Rep w C.N (Mut γ σ.heap) (fun i => (γ i).1) v x) : SR C γ (σ.puto d v) (a.put d x) w := by
  cases d with
  | none => exact h
  | some d =>
    have hlt : d < a.tmps.size := by rw [h.size]; exact hd d rfl
    refine { h.toHR with env := fun t => ?_, size := ?_, defers := h.defers }
    · show Rep w C.N (Mut γ σ.heap) _ ((σ.put d v).env t) ((a.tmps.setIfInBounds d x).getD t undef)
      rw [put_env, getD_set _ _ _ _ hlt]
      by_cases ht : t = d
      · rw [if_pos ht, if_pos ht]; exact hx
      · rw [if_neg ht, if_neg ht]; exact h.env t
    · show (a.tmps.setIfInBounds d x).size = C.n
      rw [Array.size_setIfInBounds]; exact h.size
end
def Lift (C : Cx) (Q : Exit → St → Prop) : Exit → Act → World → Prop := fun e a w => ∃ γ σ, Q e σ ∧ SR C γ σ a w
def Tri (C : Cx) (c : Code) (σ : St) (Q : Exit → St → Prop) : Prop := ∀ γ a w, SR C γ σ a w → c.wp C.P (Lift C Q) a w
def thenQ (N : St → Prop) (Q : Exit → St → Prop) : Exit → St → Prop
  | .normal, σ => N σ
  | e, σ => Q e σ
def blockQ (id : Nat) (Q : Exit → St → Prop) : Exit → St → Prop
  | .exit i, σ => match Nat.beq i id with
    | true => Q .normal σ
    | false => Q (.exit i) σ
  | e, σ => Q e σ
def Weak (C : Cx) (σ τ : St) : Prop := ∀ γ a w, SR C γ σ a w → ∃ γ', SR C γ' τ a w
theorem Weak.refl (C : Cx) (σ : St) : Weak C σ σ := fun γ _ _ h => ⟨γ, h⟩
theorem Weak.trans {C : Cx} {σ τ υ : St} (h : Weak C σ τ) (k : Weak C τ υ) : Weak C σ υ := fun γ a w s => let ⟨γ', s'⟩ := h γ a w s; k γ' a w s'
section
variable {C : Cx} {σ τ : St} {Q Q' : Exit → St → Prop}
theorem Lift.mono (h : ∀ e σ, Q e σ → Q' e σ) {e : Exit} {a : Act} {w : World} (hl : Lift C Q e a w) : Lift C Q' e a w :=
  let ⟨γ, σ, q, r⟩ := hl; ⟨γ, σ, h e σ q, r⟩
theorem Tri.mono {c : Code} (h : Tri C c σ Q) (hq : ∀ e σ, Q e σ → Q' e σ) : Tri C c σ Q' := fun γ a w s => wp_mono (h γ a w s) (fun _ _ _ hl => hl.mono hq)
theorem Tri.weak {c : Code} (hw : Weak C σ τ) (h : Tri C c τ Q) : Tri C c σ Q := fun γ a w s => let ⟨γ', s'⟩ := hw γ a w s; h γ' a w s'
theorem tri_seq {x y : Code} (h : Tri C x σ (thenQ (fun σ' => Tri C y σ' Q) Q)) : Tri C (.seq x y) σ Q := fun γ a w s => by
  refine wp_seq (wp_mono (h γ a w s) ?_)
  rintro e a w ⟨γ, σ, q, r⟩
  cases e with
  | normal => exact q γ a w r
  | _ => exact ⟨γ, σ, q, r⟩
theorem tri_skip (h : Q .normal σ) : Tri C .skip σ Q := fun γ _ _ s => wp_skip ⟨γ, σ, h, s⟩
theorem tri_ret (h : Q .ret σ) : Tri C .ret σ Q := fun γ _ _ s => wp_ret ⟨γ, σ, h, s⟩
theorem tri_exit {id : Nat} (h : Q (.exit id) σ) : Tri C (.exit id) σ Q := fun γ _ _ s => wp_exit ⟨γ, σ, h, s⟩
theorem tri_cond {c : Operand} {x y : Code} (b : Bool) (hc : σ.ev c = .bool b) (h1 : b = true → Tri C x σ Q) (h2 : b = false → Tri C y σ Q) : Tri C (.cond c x y) σ Q := fun γ a w s => by
  have hv := s.ev c
  rw [hc] at hv
  exact wp_cond_split hv.bool_inv (fun hb => h1 hb γ a w s) (fun hb => h2 hb γ a w s)
theorem tri_true {c : Operand} {x y : Code} (hc : σ.ev c = .bool true) (h1 : Tri C x σ Q) : Tri C (.cond c x y) σ Q := tri_cond true hc (fun _ => h1) (fun h => by cases h)
theorem tri_false {c : Operand} {x y : Code} (hc : σ.ev c = .bool false) (h1 : Tri C y σ Q) : Tri C (.cond c x y) σ Q := tri_cond false hc (fun h => by cases h) (fun _ => h1)
theorem tri_block {id : Nat} {c : Code} (h : Tri C c σ (blockQ id Q)) : Tri C (.block id c) σ Q := fun γ a w s => by
  refine wp_block (wp_mono (h γ a w s) ?_)
  rintro e a w ⟨γ, σ, q, r⟩
  cases e with
  | exit i =>
    show if i = id then Lift C Q .normal a w else Lift C Q (.exit i) a w
    by_cases hi : i = id
    · subst hi
      rw [if_pos rfl]
      refine ⟨γ, σ, ?_, r⟩
      simpa [blockQ] using q
    · rw [if_neg hi]
      refine ⟨γ, σ, ?_, r⟩
      simpa [blockQ, beq_ne hi] using q
  | _ => exact ⟨γ, σ, q, r⟩
def loopQ (C : Cx) {X : Type} (I : X → Prop) (S : X → St) (μ : X → Nat) (m : Nat) (Q : Exit → St → Prop) : Exit → St → Prop
  | .normal, σ => ∃ y, I y ∧ Weak C σ (S y) ∧ μ y < m
  | e, σ => Q e σ
theorem tri_loop {c : Code} {X : Type} (I : X → Prop) (S : X → St) (μ : X → Nat) (x0 : X) (h0 : I x0) (hw : Weak C σ (S x0)) (hr : ∀ x, I x → Tri C c (S x) (loopQ C I S μ (μ x) Q)) : Tri C (.loop c) σ Q := by
  intro γ a w s
  obtain ⟨γ, s⟩ := hw γ a w s
  intro b k cs
  have key : ∀ n x γ a w, μ x = n → I x → SR C γ (S x) a w →
      ∃ e a' w', Lift C Q e a' w' ∧ Arrives C.P (lone (b.at a (.code c :: .inLoop c :: k)) cs w) b k cs e a' w' := by
    intro n
    induction n using Nat.strongRecOn with
    | _ n ih =>
      intro x γ a w hn hI s
      obtain ⟨e, a₁, w₁, hq, harr⟩ := hr x hI γ a w s b (.inLoop c :: k) cs
      cases e with
      | normal =>
        obtain ⟨γ', σ', ⟨y, hy, hwk, hlt⟩, r⟩ := hq
        obtain ⟨γ'', s''⟩ := hwk γ' a₁ w₁ r
        obtain ⟨e₂, a₂, w₂, hq₂, harr₂⟩ := ih (μ y) (hn ▸ hlt) y γ'' a₁ w₁ rfl hy s''
        exact ⟨e₂, a₂, w₂, hq₂, .of_steps (Steps.trans harr (.one step_inLoop)) harr₂⟩
      | exit id => exact ⟨_, a₁, w₁, hq, .pass (x := .inLoop c) rfl (fun _ _ => .inl (by simp)) harr⟩
      | goto l => exact ⟨_, a₁, w₁, hq, .pass (x := .inLoop c) rfl (fun _ _ => .inl (by simp)) harr⟩
      | ret => exact ⟨_, a₁, w₁, hq, .pass (x := .inLoop c) rfl (fun _ _ => .inl (by simp)) harr⟩
      | panic ch => exact ⟨_, a₁, w₁, hq, .pass (x := .inLoop c) rfl (fun _ _ => .inl (by simp)) harr⟩
      | outgrown => exact ⟨_, a₁, w₁, hq, .pass (x := .inLoop c) rfl (fun _ _ => .inl (by simp)) harr⟩
  obtain ⟨e, a', w', hq, harr⟩ := key _ x0 γ a w rfl h0 s
  exact ⟨e, a', w', hq, .of_steps (.one step_loop) harr⟩
end
end Go.Proofs.YtignjjnflcpiiaaGreatDoor
/- Regions: what one operation does to a state; a region in its own order; a region that draws its order, one walk in the order of the text. -/
namespace Go.Proofs.YtignjjnflcpiiaaGreatDoor
open Go.RowKit
def Qd (C : Cx) (o : Oper) (σ : St) (v : AV) : Prop :=
  ∀ γ σ1 a w, SR C γ σ1 a w → σ1.heap = σ.heap → (∀ x ∈ o.op.operands, σ1.ev x = σ.ev x) →
    o.wp C.P a w (fun a' w' => ∃ x, a' = a.put o.dst x ∧ Ext w w' ∧ Rep w' C.N (Mut γ σ.heap) (fun i => (γ i).1) v x) (fun _ _ _ => False)
def Wr (C : Cx) (o : Oper) (σ σ' : St) : Prop :=
  ∀ γ a w, SR C γ σ a w → o.wp C.P a w (fun a' w' => ∃ γ', SR C γ' σ' a' w') (fun _ _ _ => False)
def Do (C : Cx) (wr : Oper → Bool) (o : Oper) (σ : St) (K : St → Prop) : Prop :=
  (∃ v, Qd C o σ v ∧ K (σ.puto o.dst v)) ∨ (wr o = true ∧ ∃ σ', Wr C o σ σ' ∧ K σ')
def UN : AV := .tup []
def GV (v : AV) (want : Bool) : Option Bool := match v with
  | .bool b => some (b == want)
  | .tup [] => some false
  | _ => none
def Step1 (C : Cx) (wr : Oper → Bool) (ops : Array Oper) (o : Oper) (σ : St) (K : St → Prop) : Prop :=
  match o.guard with
  | none => Do C wr o σ K
  | some (j, want) => ∃ d r, (ops[j]?).bind (·.dst) = some d ∧ GV (σ.env d) want = some r ∧ (r = true → Do C wr o σ K) ∧ (r = false → K (σ.puto o.dst UN))
def Steps (C : Cx) (wr : Oper → Bool) (ops : Array Oper) : List Oper → St → (St → Prop) → Prop
  | [], σ, K => K σ
  | o :: rest, σ, K => Step1 C wr ops o σ (fun σ' => Steps C wr ops rest σ' K)
def StepsI (C : Cx) (wr : Oper → Bool) (ops : Array Oper) : List Nat → St → (St → Prop) → Prop
  | [], σ, K => K σ
  | i :: rest, σ, K => match ops[i]? with
    | none => StepsI C wr ops rest σ K
    | some o => Step1 C wr ops o σ (fun σ' => StepsI C wr ops rest σ' K)
section
variable {C : Cx} {wr : Oper → Bool} {ops : Array Oper} {o : Oper} {σ : St} {K K' : St → Prop}
theorem Do.mono (h : ∀ σ, K σ → K' σ) (hd : Do C wr o σ K) : Do C wr o σ K' := by
  rcases hd with ⟨v, h1, h2⟩ | ⟨h0, σ', h1, h2⟩
  · exact .inl ⟨v, h1, h _ h2⟩
  · exact .inr ⟨h0, σ', h1, h _ h2⟩
theorem Step1.mono (h : ∀ σ, K σ → K' σ) (hd : Step1 C wr ops o σ K) : Step1 C wr ops o σ K' := by
  unfold Step1 at *
  split
  · rename_i hg; rw [hg] at hd; exact hd.mono h
  · rename_i hg
    rw [hg] at hd
    obtain ⟨d, b, h1, h2, h3, h4⟩ := hd
    exact ⟨d, b, h1, h2, fun hb => (h3 hb).mono h, fun hb => h _ (h4 hb)⟩
theorem wp_exits {P : Program} {a : Act} {w : World} {N N' : Act → World → Prop} {Q : Exit → Act → World → Prop} (hh : o.wp P a w N (fun _ _ _ => False)) (h : ∀ a w, N a w → N' a w) : o.wp P a w N' Q := by
  unfold Oper.wp at *
  generalize (execOp a.eval o).run P w = r at *
  cases r with
  | ok n w' =>
    cases n <;> simp only [Oper.upon] at hh ⊢ <;>
      first
        | exact h _ _ hh
        | exact Calls.mono hh (fun e w'' he => by
            cases e with
            | returned v => exact h _ _ he
            | panicked c => exact False.elim he
            | outgrown => obtain ⟨_, _, hf⟩ := he; exact False.elim hf)
        | exact Rows.mono hh (fun _ _ he => h _ _ he)
        | exact False.elim hh
  | halt x w' => cases x <;> simp only [Oper.upon] at hh ⊢ <;> exact False.elim hh
theorem blt_lt {a b : Nat} (h : Nat.blt a b = true) : a < b := Nat.le_of_ble_eq_true h
def dstOk (n : Nat) (o : Oper) : Bool := match o.dst with
  | some d => Nat.blt d n
  | none => true
theorem dstOk_spec {n : Nat} (h : dstOk n o = true) : ∀ t, o.dst = some t → t < n := by
  intro t ht
  unfold dstOk at h
  rw [ht] at h
  exact blt_lt h
theorem Do.wp {γ : Gh} {a : Act} {w : World} {N : Act → World → Prop} {Q : Exit → Act → World → Prop} (hd : Do C wr o σ K) (hn : dstOk C.n o = true) (s : SR C γ σ a w)
    (h : ∀ γ σ a w, SR C γ σ a w → K σ → N a w) : o.wp C.P a w N Q := by
  rcases hd with ⟨v, h1, h2⟩ | ⟨_, σ', h1, h2⟩
  · refine wp_exits (h1 γ σ a w s rfl (fun _ _ => rfl)) ?_
    rintro a' w' ⟨x, rfl, he, hx⟩
    exact h γ _ _ _ ((s.ext he).put o.dst (dstOk_spec hn) hx) h2
  · refine wp_exits (h1 γ a w s) ?_
    rintro a' w' ⟨γ', s'⟩
    exact h γ' _ _ _ s' h2
theorem yielded_of {γ : Gh} {a : Act} {w : World} (s : SR C γ σ a w) {j d : Nat} {b : Bool} (hd : (ops[j]?).bind (·.dst) = some d) (hb : σ.env d = .bool b) : yielded ops a.tmps j = some b := by
  have hv := s.env d
  rw [hb] at hv
  have hv := hv.bool_inv
  have hlt : d < a.tmps.size := by
    rcases Nat.lt_or_ge d a.tmps.size with h | h
    · exact h
    · rw [Array.getD_eq_getD_getElem?, Array.getElem?_eq_none h] at hv
      cases hv
  unfold yielded
  rw [hd]
  rw [Array.getD_eq_getD_getElem?, Array.getElem?_eq_getElem hlt] at hv
  simp only [Option.bind_some]
  rw [Array.getElem?_eq_getElem hlt]
  simp only [Option.getD_some] at hv
  rw [hv]
theorem yielded_un {γ : Gh} {a : Act} {w : World} (s : SR C γ σ a w) {j d : Nat} (hd : (ops[j]?).bind (·.dst) = some d) (hb : σ.env d = .tup []) : yielded ops a.tmps j = none := by
  have hv := s.env d
  rw [hb] at hv
  obtain ⟨xs, hv, hl, _⟩ := hv.tup_inv
  have : xs = [] := List.eq_nil_of_length_eq_zero hl
  subst this
  unfold yielded
  rw [hd]
  simp only [Option.bind_some]
  rcases Nat.lt_or_ge d a.tmps.size with h | h
  · rw [Array.getD_eq_getD_getElem?, Array.getElem?_eq_getElem h] at hv
    rw [Array.getElem?_eq_getElem h]
    simp only [Option.getD_some] at hv
    rw [hv]
  · rw [Array.getElem?_eq_none h]
theorem GV_wanted {γ : Gh} {a : Act} {w : World} (s : SR C γ σ a w) {j d : Nat} {want r : Bool} (hd : (ops[j]?).bind (·.dst) = some d) (hr : GV (σ.env d) want = some r) : (yielded ops a.tmps j == some want) = r := by
  unfold GV at hr
  split at hr
  · rename_i b hb
    cases hr
    rw [yielded_of s hd hb]
    cases b <;> cases want <;> rfl
  · rename_i hb
    cases hr
    rw [yielded_un s hd hb]
    rfl
  · cases hr
theorem Step1.wpOp {γ : Gh} {a : Act} {w : World} {i : Nat} {N : Act → World → Prop} {Q : Exit → Act → World → Prop} (hi : ops[i]? = some o) (hd : Step1 C wr ops o σ K) (hn : dstOk C.n o = true) (s : SR C γ σ a w)
    (h : ∀ γ σ a w, SR C γ σ a w → K σ → N a w) : wpOp C.P ops Q i N a w := by
  unfold Go.wpOp
  simp only [hi]
  unfold Step1 at hd
  cases hg : o.guard with
  | none =>
    rw [hg] at hd
    have hw : Region.wanted o (yielded ops a.tmps) = true := by simp [Region.wanted, hg]
    simp only [hw, if_true]
    exact .inl (Do.wp hd hn s h)
  | some g =>
    obtain ⟨j, want⟩ := g
    rw [hg] at hd
    obtain ⟨d, r, h1, h2, h3, h4⟩ := hd
    have hw : Region.wanted o (yielded ops a.tmps) = r := by simp only [Region.wanted, hg]; exact GV_wanted s h1 h2
    cases r with
    | true =>
      simp only [hw, if_true]
      exact .inl (Do.wp (h3 rfl) hn s h)
    | false =>
      simp only [hw, Bool.false_eq_true, if_false]
      exact h γ _ _ _ (s.put o.dst (dstOk_spec hn) (.tup _ [] [] rfl (fun i h => absurd h (Nat.not_lt_zero i)))) (h4 rfl)
theorem stepsI_wp {Q : Exit → Act → World → Prop} (hQ : ∀ γ σ a w, SR C γ σ a w → K σ → Q .normal a w) (hn : ∀ (i : Nat) o, ops[i]? = some o → dstOk C.n o = true) (l : List Nat) : ∀ γ σ a w, SR C γ σ a w → StepsI C wr ops l σ K → wpOps C.P ops Q l a w := by
  induction l with
  | nil => exact fun γ σ a w s h => hQ γ σ a w s h
  | cons i rest ih =>
    intro γ σ a w s h
    rw [wpOps_cons]
    unfold StepsI at h
    cases ho : ops[i]? with
    | none =>
      rw [ho] at h
      unfold Go.wpOp
      simp only [ho]
      exact ih γ σ a w s h
    | some o =>
      rw [ho] at h
      exact Step1.wpOp ho h (hn i o ho) s (fun γ σ a w s k => ih γ σ a w s k)
theorem stepsI_of (l : List Oper) : ∀ k σ, (∀ j, l[j]? = ops[k + j]?) → Steps C wr ops l σ K → StepsI C wr ops (List.range' k l.length) σ K := by
  induction l with
  | nil => exact fun k σ _ h => h
  | cons o rest ih =>
    intro k σ hl h
    have h0 := hl 0
    simp only [List.getElem?_cons_zero, Nat.add_zero] at h0
    rw [List.length_cons, List.range'_succ]
    unfold StepsI
    rw [← h0]
    exact Step1.mono (fun σ' h' => ih (k + 1) σ' (fun j => by have := hl (j + 1); simp only [List.getElem?_cons_succ] at this; rw [this]; congr 1; omega) h') h
def dstsOk (n : Nat) (l : List Oper) : Bool := l.all (dstOk n)
theorem dstsOk_spec {n : Nat} {l : List Oper} (h : dstsOk n l = true) (i : Nat) (o : Oper) (ho : l.toArray[i]? = some o) : dstOk n o = true :=
  List.all_eq_true.1 h o (by simpa using List.mem_of_getElem? (by simpa using ho))
theorem tri_region {id : Nat} {l : List Oper} {Q : Exit → St → Prop} (hn : dstsOk C.n l = true) (h : Steps C (fun _ => true) l.toArray l σ (Q .normal)) : Tri C (.region id l.toArray false) σ Q := by
  intro γ a w s
  refine wp_region ?_
  rw [List.range_eq_range', List.size_toArray]
  exact stepsI_wp (K := Q .normal) (fun γ σ a w s q => ⟨γ, σ, q, s⟩) (dstsOk_spec hn) _ γ σ a w s (stepsI_of l 0 σ (fun j => by simp) h)
def Out (C : Cx) (ops : Array Oper) (o : Oper) (σ : St) (v : AV) : Prop :=
  match o.guard with
  | none => Qd C o σ v
  | some (j, want) => ∃ d r, (ops[j]?).bind (·.dst) = some d ∧ GV (σ.env d) want = some r ∧ (r = true → Qd C o σ v) ∧ (r = false → v = UN)
theorem step1_out (hw : wr o = false) : Step1 C wr ops o σ K ↔ ∃ v, Out C ops o σ v ∧ K (σ.puto o.dst v) := by
  unfold Step1 Out Do
  cases hg : o.guard with
  | none =>
    simp only [hw]
    exact ⟨fun h => h.resolve_right (by simp), .inl⟩
  | some g =>
    obtain ⟨j, want⟩ := g
    simp only [hw]
    constructor
    · rintro ⟨d, r, h1, h2, h3, h4⟩
      cases r with
      | true =>
        obtain ⟨v, h5, h6⟩ := (h3 rfl).resolve_right (by simp)
        exact ⟨v, ⟨d, true, h1, h2, fun _ => h5, fun h => by cases h⟩, h6⟩
      | false => exact ⟨UN, ⟨d, false, h1, h2, (fun h => by cases h), fun _ => rfl⟩, h4 rfl⟩
    · rintro ⟨v, ⟨d, r, h1, h2, h3, h4⟩, h5⟩
      exact ⟨d, r, h1, h2, fun hb => .inl ⟨v, h3 hb, h5⟩, fun hb => by rw [← h4 hb]; exact h5⟩
theorem puto_heap (σ : St) (d : Option Nat) (v : AV) : (σ.puto d v).heap = σ.heap := by cases d <;> rfl
theorem puto_env (σ : St) (d : Option Nat) (v : AV) (i : Nat) (h : d ≠ some i) : (σ.puto d v).env i = σ.env i := by
  cases d with
  | none => rfl
  | some d => show (σ.put d v).env i = _; rw [put_env, if_neg (fun e => h (by rw [e]))]
theorem puto_comm (σ : St) (x y : Option Nat) (v u : AV) (h : ∀ d, x = some d → y ≠ some d) : (σ.puto x v).puto y u = (σ.puto y u).puto x v := by
  cases x with
  | none => rfl
  | some d =>
    cases y with
    | none => rfl
    | some e =>
      have hne : d ≠ e := fun he => h d rfl (by rw [he])
      show (σ.put d v).put e u = (σ.put e u).put d v
      have : ((σ.put d v).put e u).env = ((σ.put e u).put d v).env := by
        funext i
        rw [put_env, put_env, put_env, put_env]
        by_cases h1 : i = e
        · rw [if_pos h1, if_neg (by rw [h1]; exact Ne.symm hne), if_pos h1]
        · rw [if_neg h1, if_neg h1]
      show St.mk _ _ = St.mk _ _
      exact congrArg (fun f => St.mk f σ.heap) this
theorem mem_looks {o : Oper} {t : Nat} (h : Operand.tmp t ∈ o.op.operands) : t ∈ o.looksAt ops :=
  List.mem_append_left _ (List.mem_filterMap.2 ⟨.tmp t, by simpa using h, rfl⟩)
theorem Out.same {σ σ' : St} {v : AV} (h : Out C ops o σ v) (hh : σ'.heap = σ.heap) (he : ∀ t, t ∈ o.looksAt ops → σ'.env t = σ.env t) : Out C ops o σ' v := by
  have hq : Qd C o σ v → Qd C o σ' v := fun hq γ σ1 a w s h1 h2 => by
    have := hq γ σ1 a w s (h1.trans hh) (fun x hx => by
      rw [h2 x hx]
      cases x with
      | tmp t => exact he t (mem_looks hx)
      | _ => rfl)
    rw [hh]
    exact this
  unfold Out at *
  cases hg : o.guard with
  | none => rw [hg] at h; exact hq h
  | some g =>
    obtain ⟨j, want⟩ := g
    rw [hg] at h
    obtain ⟨d, b, h1, h2, h3, h4⟩ := h
    refine ⟨d, b, h1, ?_, fun hb => hq (h3 hb), h4⟩
    rw [he d (List.mem_append_right _ (by rw [hg]; show d ∈ ((ops[j]?).bind (·.dst)).toList; rw [h1]; simp))]
    exact h2
theorem step1_swap {oi oj : Oper} (hi : wr oi = false) (hj : wr oj = false) (hap : oi.apart ops oj = true) (h : Step1 C wr ops oi σ (fun σ1 => Step1 C wr ops oj σ1 K)) :
    Step1 C wr ops oj σ (fun σ2 => Step1 C wr ops oi σ2 K) := by
  obtain ⟨h1, h2, h3⟩ := Oper.apart_spec hap
  rw [step1_out hi] at h
  obtain ⟨v, hv, h⟩ := h
  rw [step1_out hj] at h
  obtain ⟨u, hu, h⟩ := h
  rw [step1_out hj]
  refine ⟨u, hu.same (puto_heap _ _ _).symm (fun t ht => (puto_env σ oi.dst v t (fun e => h1 t e ht)).symm), ?_⟩
  rw [step1_out hi]
  refine ⟨v, hv.same (puto_heap _ _ _) (fun t ht => puto_env σ oj.dst u t (fun e => h3 t e ht)), ?_⟩
  rw [puto_comm σ oj.dst oi.dst u v (fun d hd => fun e => h2 d e hd)]
  exact h
def goesDown (ops : Array Oper) : Bool := (List.range ops.size).all fun j => match ops[j]? with
  | some o => o.after.toList.all fun e => !Region.binds .any e || Nat.blt e.on j
  | none => true
def closedB (ops : Array Oper) (B : Nat → Nat → Bool) : Bool := (List.range ops.size).all fun j => (List.range j).all fun i => !B j i || match ops[j]? with
  | some o => o.after.toList.any fun e => Region.binds .any e && Nat.blt e.on j && (Nat.beq e.on i || (Nat.blt i e.on && B e.on i))
  | none => true
def pairsOk (ops : Array Oper) (wr : Oper → Bool) (B : Nat → Nat → Bool) : Bool := (List.range ops.size).all fun j => (List.range j).all fun i => B j i || match ops[i]?, ops[j]? with
  | some oi, some oj => !wr oi && !wr oj && oi.apart ops oj
  | _, _ => true
def waits (ops : Array Oper) (j i : Nat) : Bool := ((Region.before ops).getD j 0).testBit i
def drawOk (ops : Array Oper) (wr : Oper → Bool) : Bool := goesDown ops && closedB ops (waits ops) && pairsOk ops wr (waits ops)
theorem goesDown_spec (h : goesDown ops = true) {j : Nat} {o : Oper} (ho : ops[j]? = some o) {e : Edge} (he : e ∈ o.after) (hb : Region.binds .any e = true) : e.on < j := by
  have h1 := List.all_eq_true.1 h j (List.mem_range.2 (Array.getElem?_eq_some_iff.1 ho).1)
  rw [ho] at h1
  have h2 := List.all_eq_true.1 h1 e (by simpa using he)
  rw [hb] at h2
  exact blt_lt (by simpa using h2)
def Down (ops : Array Oper) (listed : Array Bool) : Prop := ∀ (k : Nat) o, listed.getD k true = true → k < ops.size → ops[k]? = some o → ∀ e ∈ o.after, Region.binds .any e = true → listed.getD e.on false = true
theorem listed_of_waits {B : Nat → Nat → Bool} (hc : closedB ops B = true) {listed : Array Bool} (hs : listed.size = ops.size) (hd : Down ops listed) :
    ∀ (j : Nat) o, ops[j]? = some o → (∀ e ∈ o.after, Region.binds .any e = true → listed.getD e.on false = true) → ∀ i, i < j → B j i = true → listed.getD i false = true := by
  intro j
  induction j using Nat.strongRecOn with
  | _ j ih =>
    intro o ho hl i hij hB
    have h1 := List.all_eq_true.1 hc j (List.mem_range.2 (Array.getElem?_eq_some_iff.1 ho).1)
    have h2 := List.all_eq_true.1 h1 i (List.mem_range.2 hij)
    rw [hB, ho] at h2
    simp only [Bool.not_true, Bool.false_or] at h2
    obtain ⟨e, he, h3⟩ := List.any_eq_true.1 h2
    simp only [Bool.and_eq_true, Bool.or_eq_true] at h3
    obtain ⟨⟨hb, hlt⟩, h4⟩ := h3
    have hlt : e.on < j := blt_lt hlt
    have hle := hl e (by simpa using he) hb
    rcases h4 with h4 | ⟨h4, h5⟩
    · rw [← Nat.eq_of_beq_eq_true h4]; exact hle
    · have h4 : i < e.on := blt_lt h4
      have hes : e.on < ops.size := by
        rw [← hs]
        rcases Nat.lt_or_ge e.on listed.size with h | h
        · exact h
        · rw [Array.getD_eq_getD_getElem?, Array.getElem?_eq_none h] at hle; cases hle
      have hle' : listed.getD e.on true = true := by
        rw [Array.getD_eq_getD_getElem?, Array.getElem?_eq_getElem (by omega)] at hle ⊢
        exact hle
      exact ih e.on hlt ops[e.on] (Array.getElem?_eq_getElem hes) (fun e' he' hb' => hd e.on _ hle' hes (Array.getElem?_eq_getElem hes) e' he' hb') i h4 h5
theorem stepsI_pull {j : Nat} {oj : Oper} (hj : ops[j]? = some oj) : ∀ (R : List Nat) (σ : St), R.Pairwise (· < ·) → j ∈ R →
    (∀ i oi, i ∈ R → i < j → ops[i]? = some oi → wr oi = false ∧ wr oj = false ∧ oi.apart ops oj = true) → StepsI C wr ops R σ K → Step1 C wr ops oj σ (fun σ' => StepsI C wr ops (R.erase j) σ' K) := by
  intro R
  induction R with
  | nil => intro σ _ h; cases h
  | cons i rest ih =>
    intro σ hp hm hfree h
    rw [List.pairwise_cons] at hp
    by_cases hij : i = j
    · subst hij
      unfold StepsI at h
      rw [hj] at h
      rw [List.erase_cons_head]
      exact h
    · have hm' : j ∈ rest := (List.mem_cons.1 hm).resolve_left (fun e => hij e.symm)
      have hlt : i < j := hp.1 j hm'
      rw [List.erase_cons_tail (by simpa using hij)]
      have ih' := fun σ h => ih σ hp.2 hm' (fun k ok hk hkj hok => hfree k ok (List.mem_cons_of_mem _ hk) hkj hok) h
      unfold StepsI at h
      cases ho : ops[i]? with
      | none =>
        rw [ho] at h
        refine (ih' σ h).mono (fun σ' h' => ?_)
        unfold StepsI
        rw [ho]
        exact h'
      | some oi =>
        rw [ho] at h
        obtain ⟨f1, f2, f3⟩ := hfree i oi List.mem_cons_self hlt ho
        refine (step1_swap f1 f2 f3 (h.mono (fun σ1 h1 => ih' σ1 h1))).mono (fun σ' h' => ?_)
        unfold StepsI
        rw [ho]
        exact h'
theorem wpAny_steps {Q : Exit → Act → World → Prop} (hok : drawOk ops wr = true) (hQ : ∀ γ σ a w, SR C γ σ a w → K σ → Q .normal a w) (hn : ∀ (i : Nat) o, ops[i]? = some o → dstOk C.n o = true) :
    ∀ (fuel : Nat) (listed : Array Bool) (R : List Nat) γ σ a w, listed.size = ops.size → R.Pairwise (· < ·) → (∀ i, i ∈ R ↔ listed.getD i true = false) → Down ops listed → R.length ≤ fuel →
      SR C γ σ a w → StepsI C wr ops R σ K → wpAny C.P .any ops Q fuel listed a w := by
  simp only [drawOk, Bool.and_eq_true] at hok
  obtain ⟨⟨hgd, hcl⟩, hpr⟩ := hok
  have hempty : ∀ (listed : Array Bool) (R : List Nat), listed.size = ops.size → R.Pairwise (· < ·) → (∀ i, i ∈ R ↔ listed.getD i true = false) → Region.ready .any ops listed = [] → R = [] := by
    intro listed R hs hp hR hr
    cases R with
    | nil => rfl
    | cons i rest =>
      exfalso
      have hi : listed.getD i true = false := (hR i).1 List.mem_cons_self
      have his : i < ops.size := by
        rw [← hs]
        rcases Nat.lt_or_ge i listed.size with h | h
        · exact h
        · rw [Array.getD_eq_getD_getElem?, Array.getElem?_eq_none h] at hi; cases hi
      have : i ∈ Region.ready .any ops listed := by
        rw [mem_ready]
        refine ⟨hi, ops[i], Array.getElem?_eq_getElem his, fun e he hb => ?_⟩
        have hlt := goesDown_spec hgd (Array.getElem?_eq_getElem his) he hb
        cases hle : listed.getD e.on false with
        | true => rfl
        | false =>
          have : e.on ∈ i :: rest := (hR e.on).2 (by
            rw [Array.getD_eq_getD_getElem?, Array.getElem?_eq_getElem (by omega)] at hle ⊢
            exact hle)
          rcases List.mem_cons.1 this with h | h
          · omega
          · have := (List.pairwise_cons.1 hp).1 e.on h; omega
      rw [hr] at this
      cases this
  intro fuel
  induction fuel with
  | zero =>
    intro listed R γ σ a w hs hp hR hd hf s h
    have hR0 : R = [] := List.eq_nil_of_length_eq_zero (by omega)
    subst hR0
    refine ⟨?_, hQ γ σ a w s h⟩
    cases hr : Region.ready .any ops listed with
    | nil => rfl
    | cons j rest =>
      have hj : j ∈ Region.ready .any ops listed := by rw [hr]; exact List.mem_cons_self
      have := (hR j).2 (mem_ready.1 hj).1
      cases this
  | succ fuel ih =>
    intro listed R γ σ a w hs hp hR hd hf s h
    refine ⟨fun hr => ?_, fun j hj => ?_⟩
    · have := hempty listed R hs hp hR hr
      subst this
      exact hQ γ σ a w s h
    · obtain ⟨hj0, oj, hoj, hall⟩ := mem_ready.1 hj
      have hjR := (hR j).2 hj0
      have hjs : j < ops.size := (Array.getElem?_eq_some_iff.1 hoj).1
      have hpull := stepsI_pull hoj R σ hp hjR (fun i oi hi hij hoi => by
        have h1 := List.all_eq_true.1 hpr j (List.mem_range.2 hjs)
        have h2 := List.all_eq_true.1 h1 i (List.mem_range.2 hij)
        rw [hoi, hoj] at h2
        rw [Bool.or_eq_true] at h2
        rcases h2 with h2 | h2
        · exfalso
          have := listed_of_waits hcl hs hd j oj hoj hall i hij h2
          have h0 := (hR i).1 hi
          rw [Array.getD_eq_getD_getElem?] at this h0
          cases hx : listed[i]? with
          | none => rw [hx] at this; cases this
          | some b => rw [hx] at this h0; simp only [Option.getD_some] at this h0; rw [this] at h0; cases h0
        · simp only [Bool.and_eq_true, Bool.not_eq_true'] at h2
          exact ⟨h2.1.1, h2.1.2, h2.2⟩) h
      refine Step1.wpOp hoj hpull (hn j oj hoj) s (fun γ σ a w s k => ?_)
      have hlt : j < listed.size := by omega
      refine ih (listed.setIfInBounds j true) (R.erase j) γ σ a w (by simpa using hs) (hp.sublist List.erase_sublist) (fun i => ?_) (fun k' o' hk hks ho' e he hb => ?_) ?_ s k
      · have hnd : R.Nodup := hp.imp (fun h => Nat.ne_of_lt h)
        rw [List.Nodup.mem_erase_iff hnd, hR]
        by_cases hij : i = j
        · subst hij; simp [hlt]
        · rw [getD_set_ne true (Ne.symm hij)]
          simp [hij]
      · by_cases hkj : k' = j
        · subst hkj
          rw [hoj] at ho'
          cases ho'
          exact getD_set_true (hall e he hb)
        · rw [getD_set_ne true (Ne.symm hkj)] at hk
          exact getD_set_true (hd k' o' hk hks ho' e he hb)
      · rw [List.length_erase_of_mem hjR]; omega
theorem tri_draw {id : Nat} {l : List Oper} {Q : Exit → St → Prop} (wr : Oper → Bool) (hok : drawOk l.toArray wr = true) (hn : dstsOk C.n l = true) (h : Steps C wr l.toArray l σ (Q .normal)) :
    Tri C (.region id l.toArray true) σ Q := by
  intro γ a w s
  refine wp_region_any C.mixed ?_
  have s' : SR C γ σ a w.drew := s.ext (Below.refl _ w).drew
  refine wpAny_steps (K := Q .normal) hok (fun γ σ a w s q => ⟨γ, σ, q, s⟩) (dstsOk_spec hn) _ _ (List.range' 0 l.length) γ σ a w.drew (by simp) List.pairwise_lt_range' (fun i => ?_) (fun k o hk hks => ?_) (by simp) s' (stepsI_of l 0 σ (fun j => by simp) h)
  · rw [List.mem_range', Array.getD_eq_getD_getElem?, Array.getElem?_replicate]
    by_cases hi : i < l.toArray.size
    · rw [if_pos hi]; simp at hi; simp; omega
    · rw [if_neg hi]; simp at hi; simp; omega
  · rw [Array.getD_eq_getD_getElem?, Array.getElem?_replicate, if_pos hks] at hk
    cases hk
end
end Go.Proofs.YtignjjnflcpiiaaGreatDoor
/- The quiet operations, one rule each: what an operation that writes nothing yields. -/
namespace Go.Proofs.YtignjjnflcpiiaaGreatDoor
open Go.RowKit
theorem sizeMk (u : List UInt8) : (⟨u.toArray⟩ : ByteArray).size = u.length := by simp [ByteArray.size]
theorem beqd {α : Type} [BEq α] [LawfulBEq α] [DecidableEq α] (a b : α) : (a == b) = decide (a = b) := by rw [Bool.eq_iff_iff]; simp
section
variable {C : Cx} {wr : Oper → Bool} {ops : Array Oper} {o : Oper} {rest : List Oper} {σ : St} {K : St → Prop}
theorem st_nil (h : K σ) : Steps C wr ops [] σ K := h
theorem st_q {v : AV} (hg : o.guard = none) (hq : Qd C o σ v) (hk : Steps C wr ops rest (σ.puto o.dst v) K) : Steps C wr ops (o :: rest) σ K := by
  unfold Steps Step1
  rw [hg]
  exact .inl ⟨v, hq, hk⟩
theorem st_w {σ' : St} (hg : o.guard = none) (hw : wr o = true) (hq : Wr C o σ σ') (hk : Steps C wr ops rest σ' K) : Steps C wr ops (o :: rest) σ K := by
  unfold Steps Step1
  rw [hg]
  exact .inr ⟨hw, σ', hq, hk⟩
theorem GV_self (b : Bool) : GV (.bool b) b = some true := by cases b <;> rfl
theorem st_gq {v : AV} {j d : Nat} {b : Bool} (hg : o.guard = some (j, b)) (hd : (ops[j]?).bind (·.dst) = some d) (hb : σ.env d = .bool b) (hq : Qd C o σ v) (hk : Steps C wr ops rest (σ.puto o.dst v) K) : Steps C wr ops (o :: rest) σ K := by
  unfold Steps Step1
  rw [hg]
  exact ⟨d, true, hd, by rw [hb]; exact GV_self b, fun _ => .inl ⟨v, hq, hk⟩, fun h => by cases h⟩
theorem st_gw {σ' : St} {j d : Nat} {b : Bool} (hg : o.guard = some (j, b)) (hd : (ops[j]?).bind (·.dst) = some d) (hb : σ.env d = .bool b) (hw : wr o = true) (hq : Wr C o σ σ') (hk : Steps C wr ops rest σ' K) : Steps C wr ops (o :: rest) σ K := by
  unfold Steps Step1
  rw [hg]
  exact ⟨d, true, hd, by rw [hb]; exact GV_self b, fun _ => .inr ⟨hw, σ', hq, hk⟩, fun h => by cases h⟩
theorem st_gn {j d : Nat} {b : Bool} (hg : o.guard = some (j, b)) (hd : (ops[j]?).bind (·.dst) = some d) (hb : GV (σ.env d) b = some false) (hk : Steps C wr ops rest (σ.puto o.dst UN) K) : Steps C wr ops (o :: rest) σ K := by
  unfold Steps Step1
  rw [hg]
  exact ⟨d, false, hd, hb, (fun h => by cases h), fun _ => hk⟩
theorem qd_of {v : AV} (h : ∀ γ (a : Act) (w : World), HR C γ σ.heap w → (∀ x ∈ o.op.operands, Rep w C.N (Mut γ σ.heap) (fun i => (γ i).1) (σ.ev x) (a.eval x)) →
    ∃ x w', (execOp a.eval o).run C.P w = .ok (.value x) w' ∧ Ext w w' ∧ Rep w' C.N (Mut γ σ.heap) (fun i => (γ i).1) v x) : Qd C o σ v := by
  intro γ σ1 a w s hh he
  obtain ⟨x, w', hr, he', hx⟩ := h γ a w (by rw [← hh]; exact s.toHR) (fun x hx => by have := s.ev x; rw [he x hx, hh] at this; exact this)
  unfold Oper.wp
  rw [hr]
  exact ⟨x, rfl, he', hx⟩
theorem ext_refl (w : World) : Ext w w := Below.refl _ w
variable {d : Option Nat} {ty : TypeId} {pos : String} {af : Array Edge} {g : Option (Nat × Bool)}
theorem q_move {x : Operand} {v : AV} (hx : σ.ev x = v) : Qd C ⟨d, .move x, ty, pos, af, g⟩ σ v := qd_of fun γ a w _ he => by
  have e := he x (by simp [Op.operands])
  rw [hx] at e
  exact ⟨a.eval x, w, by simp [execOp], ext_refl w, e⟩
theorem q_assign {x : Operand} {v : AV} (hx : σ.ev x = v) : Qd C ⟨d, .assign x, ty, pos, af, g⟩ σ v := qd_of fun γ a w _ he => by
  have e := he x (by simp [Op.operands])
  rw [hx] at e
  exact ⟨a.eval x, w, by simp [execOp], ext_refl w, e⟩
theorem q_pick {c x y : Operand} {b : Bool} {v : AV} (hc : σ.ev c = .bool b) (hv : (match b with | true => σ.ev x | false => σ.ev y) = v) : Qd C ⟨d, .pick c x y, ty, pos, af, g⟩ σ v := qd_of fun γ a w _ he => by
  have e := he c (by simp [Op.operands])
  rw [hc] at e
  have e := e.bool_inv
  have ex := he x (by simp [Op.operands])
  have ey := he y (by simp [Op.operands])
  subst hv
  cases b with
  | true => exact ⟨a.eval x, w, by simp [execOp, asBool, e], ext_refl w, ex⟩
  | false => exact ⟨a.eval y, w, by simp [execOp, asBool, e], ext_refl w, ey⟩
theorem q_not {x : Operand} {t : TypeId} {b : Bool} (hx : σ.ev x = .bool b) : Qd C ⟨d, .unOp .not t x, ty, pos, af, g⟩ σ (.bool !b) := qd_of fun γ a w _ he => by
  have e := he x (by simp [Op.operands])
  rw [hx] at e
  have e := e.bool_inv
  exact ⟨.bool !b, w, by simp [execOp, e, Op.unary], ext_refl w, .bool _ _⟩
theorem q_extract {x : Operand} {i : Nat} {l : List AV} {v : AV} (hx : σ.ev x = .tup l) (hi : l[i]? = some v) : Qd C ⟨d, .extract x i, ty, pos, af, g⟩ σ v := qd_of fun γ a w _ he => by
  have e := he x (by simp [Op.operands])
  rw [hx] at e
  obtain ⟨xs, ex, hl, h⟩ := e.tup_inv
  obtain ⟨hi1, hi2⟩ := List.getElem?_eq_some_iff.1 hi
  have hr := h i hi1 (by omega)
  rw [hi2] at hr
  refine ⟨xs[i]'(by omega), w, ?_, ext_refl w, hr⟩
  simp [execOp, ex, Instr.extract, show i < xs.length by omega]
theorem q_bin {op : BinOp} {x y : Operand} {t t' : TypeId} {k k' : IntKind} {m n : Int} {v : Value} {av : AV} (hx : σ.ev x = .int k m) (hy : σ.ev y = .int k' n)
    (hr : ∀ (P : Program) (w : World), (binOp op t (.int k m) (.int k' n)).run P w = .ok v w) (hv : ∀ (w : World) N M γ, Rep w N M γ av v) : Qd C ⟨d, .binOp op t x y t', ty, pos, af, g⟩ σ av := qd_of fun γ a w _ he => by
  have e1 := he x (by simp [Op.operands])
  have e2 := he y (by simp [Op.operands])
  rw [hx] at e1; rw [hy] at e2
  have e1 := e1.int_inv
  have e2 := e2.int_inv
  exact ⟨v, w, by simp [execOp, e1, e2, eqGuard_at_int, hr], ext_refl w, hv _ _ _ _⟩
section
variable {x y : Operand} {t t' : TypeId} {k : IntKind} {m n : Int}
theorem q_add (hx : σ.ev x = .int k m) (hy : σ.ev y = .int k n) (hk : k.wrap (m + n) = m + n) : Qd C ⟨d, .binOp .add t x y t', ty, pos, af, g⟩ σ (.int k (m + n)) :=
  q_bin hx hy (fun P w => by simp [binOp_add, Op.intArith, hk]) (fun _ _ _ _ => .int _ _ _)
theorem q_sub (hx : σ.ev x = .int k m) (hy : σ.ev y = .int k n) (hk : k.wrap (m - n) = m - n) : Qd C ⟨d, .binOp .sub t x y t', ty, pos, af, g⟩ σ (.int k (m - n)) :=
  q_bin hx hy (fun P w => by simp [binOp_sub, Op.intArith, hk]) (fun _ _ _ _ => .int _ _ _)
theorem q_mul (hx : σ.ev x = .int k m) (hy : σ.ev y = .int k n) (hk : k.wrap (m * n) = m * n) : Qd C ⟨d, .binOp .mul t x y t', ty, pos, af, g⟩ σ (.int k (m * n)) :=
  q_bin hx hy (fun P w => by simp [binOp_mul, Op.intArith, hk]) (fun _ _ _ _ => .int _ _ _)
theorem q_quo (hx : σ.ev x = .int k m) (hy : σ.ev y = .int k n) (hn : n ≠ 0) (hk : k.wrap (m.tdiv n) = m / n) : Qd C ⟨d, .binOp .quo t x y t', ty, pos, af, g⟩ σ (.int k (m / n)) :=
  q_bin hx hy (fun P w => by simp [binOp_quo, Op.intDiv, hn, hk]) (fun _ _ _ _ => .int _ _ _)
theorem q_rem (hx : σ.ev x = .int k m) (hy : σ.ev y = .int k n) (hn : n ≠ 0) (hm : 0 ≤ m) : Qd C ⟨d, .binOp .rem t x y t', ty, pos, af, g⟩ σ (.int k (m % n)) :=
  q_bin hx hy (fun P w => by simp [binOp_rem, Op.intDiv, hn, Int.tmod_eq_emod_of_nonneg hm]) (fun _ _ _ _ => .int _ _ _)
theorem q_and {r : Int} (hx : σ.ev x = .int k m) (hy : σ.ev y = .int k n) (hk : bits .and k m n = r) : Qd C ⟨d, .binOp .and t x y t', ty, pos, af, g⟩ σ (.int k r) :=
  q_bin hx hy (fun P w => by simp [binOp_and, intBits_and, hk]) (fun _ _ _ _ => .int _ _ _)
theorem q_shr {k' : IntKind} (hx : σ.ev x = .int k m) (hy : σ.ev y = .int k' n) (h0 : 0 ≤ n) (h1 : n ≤ k.bits) : Qd C ⟨d, .binOp .shr t x y t', ty, pos, af, g⟩ σ (.int k (m / 2 ^ n.toNat)) :=
  q_bin hx hy (fun P w => by simp [binOp_shr, shift_shr k k' m n h0 h1]) (fun _ _ _ _ => .int _ _ _)
theorem q_lss (hx : σ.ev x = .int k m) (hy : σ.ev y = .int k n) : Qd C ⟨d, .binOp .lss t x y t', ty, pos, af, g⟩ σ (.bool (decide (m < n))) :=
  q_bin hx hy (fun P w => by simp [binOp_lss]) (fun _ _ _ _ => .bool _ _)
theorem q_leq (hx : σ.ev x = .int k m) (hy : σ.ev y = .int k n) : Qd C ⟨d, .binOp .leq t x y t', ty, pos, af, g⟩ σ (.bool (decide (m ≤ n))) :=
  q_bin hx hy (fun P w => by simp [binOp_leq]) (fun _ _ _ _ => .bool _ _)
theorem q_gtr (hx : σ.ev x = .int k m) (hy : σ.ev y = .int k n) : Qd C ⟨d, .binOp .gtr t x y t', ty, pos, af, g⟩ σ (.bool (decide (n < m))) :=
  q_bin hx hy (fun P w => by simp [binOp_gtr]) (fun _ _ _ _ => .bool _ _)
theorem q_geq (hx : σ.ev x = .int k m) (hy : σ.ev y = .int k n) : Qd C ⟨d, .binOp .geq t x y t', ty, pos, af, g⟩ σ (.bool (decide (n ≤ m))) :=
  q_bin hx hy (fun P w => by simp [binOp_geq]) (fun _ _ _ _ => .bool _ _)
theorem q_eql (hx : σ.ev x = .int k m) (hy : σ.ev y = .int k n) : Qd C ⟨d, .binOp .eql t x y t', ty, pos, af, g⟩ σ (.bool (decide (m = n))) :=
  q_bin hx hy (fun P w => by simp [binOp_eql]; exact beqd _ _) (fun _ _ _ _ => .bool _ _)
theorem q_neq (hx : σ.ev x = .int k m) (hy : σ.ev y = .int k n) : Qd C ⟨d, .binOp .neq t x y t', ty, pos, af, g⟩ σ (.bool (decide (m ≠ n))) :=
  q_bin hx hy (fun P w => by simp [binOp_neq, bne, beqd]) (fun _ _ _ _ => .bool _ _)
theorem q_min {ts : Array TypeId} (hx : σ.ev x = .int k m) (hy : σ.ev y = .int k n) : Qd C ⟨d, .call { callee := .builtin .min, args := #[x, y], argTypes := ts }, ty, pos, af, g⟩ σ (.int k (min m n)) := qd_of fun γ a w _ he => by
  have e1 := he x (by simp [Op.operands, Call.operands])
  have e2 := he y (by simp [Op.operands, Call.operands])
  rw [hx] at e1; rw [hy] at e2
  have e1 := e1.int_inv
  have e2 := e2.int_inv
  refine ⟨.int k (min m n), w, ?_, ext_refl w, .int _ _ _⟩
  simp [execOp, resolve, invoke, builtin, e1, e2, run_min_int2]
  omega
theorem q_convint {k2 : IntKind} {td sd : TypeId} {r : Int} (hx : σ.ev x = .int k m) (hs : (C.P.underlying sd).isSome = true) (hd : C.P.underlying td = some (.int k2)) (hr : k2.wrap m = r) : Qd C ⟨d, .convert sd td x, ty, pos, af, g⟩ σ (.int k2 r) := qd_of fun γ a w _ he => by
  have e1 := he x (by simp [Op.operands])
  rw [hx] at e1
  have e1 := e1.int_inv
  obtain ⟨u, hu⟩ := Option.isSome_iff_exists.mp hs
  refine ⟨.int k2 r, w, ?_, ext_refl w, .int _ _ _⟩
  simp [execOp, e1, convert, run_underlying hu, run_underlying hd, Conv.intToInt, hr]
end
section
variable {x y : Operand} {t t' : TypeId} {p q : Bool} {u v : List UInt8}
theorem q_neqb (hx : σ.ev x = .bool p) (hy : σ.ev y = .bool q) (ht : C.P.underlying t = some .bool) : Qd C ⟨d, .binOp .neq t x y t', ty, pos, af, g⟩ σ (.bool (!(p == q))) := qd_of fun γ a w _ he => by
  have e1 := he x (by simp [Op.operands])
  have e2 := he y (by simp [Op.operands])
  rw [hx] at e1; rw [hy] at e2
  have e1 := e1.bool_inv
  have e2 := e2.bool_inv
  exact ⟨.bool (!(p == q)), w, by simp [execOp, e1, e2, eqGuard_at_bool, run_neq_bool w t p q ht], ext_refl w, .bool _ _⟩
theorem q_eqls (hx : σ.ev x = .str u) (hy : σ.ev y = .str v) : Qd C ⟨d, .binOp .eql t x y t', ty, pos, af, g⟩ σ (.bool (decide (u = v))) := qd_of fun γ a w _ he => by
  have e1 := he x (by simp [Op.operands])
  have e2 := he y (by simp [Op.operands])
  rw [hx] at e1; rw [hy] at e2
  have e1 := e1.str_inv
  have e2 := e2.str_inv
  refine ⟨.bool (decide (u = v)), w, ?_, ext_refl w, .bool _ _⟩
  simp [execOp, e1, e2, eqGuard_at_string, binOp_string_eql]
  exact beqd _ _
theorem q_neqs (hx : σ.ev x = .str u) (hy : σ.ev y = .str v) : Qd C ⟨d, .binOp .neq t x y t', ty, pos, af, g⟩ σ (.bool (decide (u ≠ v))) := qd_of fun γ a w _ he => by
  have e1 := he x (by simp [Op.operands])
  have e2 := he y (by simp [Op.operands])
  rw [hx] at e1; rw [hy] at e2
  have e1 := e1.str_inv
  have e2 := e2.str_inv
  refine ⟨.bool (decide (u ≠ v)), w, ?_, ext_refl w, .bool _ _⟩
  simp [execOp, e1, e2, eqGuard_at_string, binOp_string_neq, beqd]
theorem q_adds (hx : σ.ev x = .str u) (hy : σ.ev y = .str v) (hl : u.length + v.length ≤ 9223372036854775807) : Qd C ⟨d, .binOp .add t x y t', ty, pos, af, g⟩ σ (.str (u ++ v)) := qd_of fun γ a w _ he => by
  have e1 := he x (by simp [Op.operands])
  have e2 := he y (by simp [Op.operands])
  rw [hx] at e1; rw [hy] at e2
  have e1 := e1.str_inv
  have e2 := e2.str_inv
  have hs : ¬ (((⟨u.toArray⟩ : ByteArray).size + (⟨v.toArray⟩ : ByteArray).size : Nat) : Int) > IntKind.i64.max := by
    rw [IntKind.max_i64, sizeMk, sizeMk]; omega
  have hc : ((⟨u.toArray⟩ : ByteArray) ++ (⟨v.toArray⟩ : ByteArray)) = ⟨(u ++ v).toArray⟩ := by apply ByteArray.ext; simp
  refine ⟨.string ⟨(u ++ v).toArray⟩, w, ?_, ext_refl w, .str _ _⟩
  simp only [execOp, e1, e2, eqGuard_at_string, binOp_string_add, Op.stringOp, if_neg hs, hc]
  simp
theorem q_lens {ts : TypeId} (hx : σ.ev x = .str u) (ht : C.P.underlying ts = some .string) (hl : u.length ≤ 9223372036854775807) : Qd C ⟨d, .call { callee := .builtin .len, args := #[x], argTypes := #[ts] }, ty, pos, af, g⟩ σ (.int .i64 u.length) := qd_of fun γ a w _ he => by
  have e1 := he x (by simp [Op.operands, Call.operands])
  rw [hx] at e1
  have e1 := e1.str_inv
  have hw : IntKind.i64.wrap (u.length : Int) = u.length := IntWalk.i64_in _ (by omega)
  refine ⟨.int .i64 u.length, w, ?_, ext_refl w, .int _ _ _⟩
  simp [execOp, resolve, invoke, builtin, e1, run_len_string w ts ty _ ht, goInt, sizeMk]
theorem q_index {i : Int} {k : IntKind} {c : UInt8} (hx : σ.ev x = .str u) (hy : σ.ev y = .int k i) (ht : C.P.underlying t = some .string) (h0 : 0 ≤ i) (hi : u[i.toNat]? = some c) : Qd C ⟨d, .index t x y, ty, pos, af, g⟩ σ (.int .u8 c.toNat) := qd_of fun γ a w _ he => by
  have e1 := he x (by simp [Op.operands])
  have e2 := he y (by simp [Op.operands])
  rw [hx] at e1; rw [hy] at e2
  have e1 := e1.str_inv
  have e2 := e2.int_inv
  obtain ⟨h1, h2⟩ := List.getElem?_eq_some_iff.1 hi
  refine ⟨.int .u8 c.toNat, w, ?_, ext_refl w, .int _ _ _⟩
  have hg : (⟨u.toArray⟩ : ByteArray)[i.toNat]? = some c := by
    rw [ByteArray.getElem?_lt' _ _ (by rw [sizeMk]; exact h1)]
    exact congrArg some h2
  simp [execOp, e1, e2, Instr.index, asIntOf, run_underlying ht, h0, hg]
theorem q_index' {i : Int} {k : IntKind} (hx : σ.ev x = .str u) (hy : σ.ev y = .int k i) (ht : C.P.underlying t = some .string) (h0 : 0 ≤ i) (hi : i.toNat < u.length) : Qd C ⟨d, .index t x y, ty, pos, af, g⟩ σ (.int .u8 (u.getD i.toNat 0).toNat) :=
  q_index hx hy ht h0 (by rw [List.getD_eq_getElem?_getD, List.getElem?_eq_getElem hi]; rfl)
theorem extract_mk (u : List UInt8) (l h : Nat) (hh : h ≤ u.length) : (⟨u.toArray⟩ : ByteArray).extract l h = ⟨((u.take h).drop l).toArray⟩ := by
  apply ByteArray.ext
  simp [List.drop_take]
theorem q_slice {yl yh : Option Operand} {l h : Nat} (hx : σ.ev x = .str u) (ht : C.P.underlying t = some .string)
    (hl : match yl with | some yl => ∃ k m, σ.ev yl = .int k m ∧ 0 ≤ m ∧ m.toNat = l | none => l = 0)
    (hh : match yh with | some yh => ∃ k m, σ.ev yh = .int k m ∧ 0 ≤ m ∧ m.toNat = h | none => h = u.length)
    (h1 : l ≤ h) (h2 : h ≤ u.length) : Qd C ⟨d, .slice t x yl yh none, ty, pos, af, g⟩ σ (.str ((u.take h).drop l)) := qd_of fun γ a w _ he => by
  have e1 := he x (by simp [Op.operands])
  rw [hx] at e1
  have e1 := e1.str_inv
  refine ⟨.string ⟨((u.take h).drop l).toArray⟩, w, ?_, ext_refl w, .str _ _⟩
  have hsz : (⟨u.toArray⟩ : ByteArray).size = u.length := sizeMk _
  cases yl with
  | none =>
    simp only at hl
    subst hl
    cases yh with
    | none =>
      simp only at hh
      subst hh
      simp [execOp, e1, run_sliceAt_string w t _ _ _ _ ht, Instr.slice, run_underlying ht, Instr.sliceBounds, hsz, extract_mk u 0 u.length (Nat.le_refl _)]
    | some yh =>
      obtain ⟨k, m, e2, e3, e4⟩ := hh
      have e5 := he yh (by simp [Op.operands])
      rw [e2] at e5
      have e5 := e5.int_inv
      have e6 : m ≤ u.length := by omega
      simp [execOp, e1, e5, run_sliceAt_string w t _ _ _ _ ht, Instr.slice, run_underlying ht, Instr.sliceBounds, Instr.sliceBound, asIntOf, hsz, e3, e4, e6, extract_mk u 0 h h2]
  | some yl =>
    obtain ⟨k, m, e2, e3, e4⟩ := hl
    have e5 := he yl (by simp [Op.operands])
    rw [e2] at e5
    have e5 := e5.int_inv
    cases yh with
    | none =>
      simp only at hh
      subst hh
      have e6 : m ≤ u.length := by omega
      simp [execOp, e1, e5, run_sliceAt_string w t _ _ _ _ ht, Instr.slice, run_underlying ht, Instr.sliceBounds, Instr.sliceBound, asIntOf, hsz, e3, e4, e6, extract_mk u l u.length (Nat.le_refl _)]
    | some yh =>
      obtain ⟨k', m', e2', e3', e4'⟩ := hh
      have e5' := he yh (by simp [Op.operands])
      rw [e2'] at e5'
      have e5' := e5'.int_inv
      have e6 : m ≤ h := by omega
      have e6' : m' ≤ u.length := by omega
      simp [execOp, e1, e5, e5', run_sliceAt_string w t _ _ _ _ ht, Instr.slice, run_underlying ht, Instr.sliceBounds, Instr.sliceBound, asIntOf, hsz, e3, e4, e6, e3', e4', e6', extract_mk u l h h2]
end
theorem q_nilCheck {x : Operand} {v : AV} (hx : σ.ev x = v) (hv : (match v with | .ptr _ _ | .eptr _ _ _ _ | .gptr _ _ | .rptr _ _ => true | _ => false) = true) : Qd C ⟨d, .nilCheck x, ty, pos, af, g⟩ σ v := qd_of fun γ a w _ he => by
  have e := he x (by simp [Op.operands])
  rw [hx] at e
  have : ∃ ad, a.eval x = .pointer (some ad) := by
    cases v <;> first
      | (obtain ⟨b, _, h⟩ := e.ptr_inv; exact ⟨_, h⟩)
      | (obtain ⟨g, n, c, _, h⟩ := e.eptr_inv; exact ⟨_, h⟩)
      | (have h := e.gptr_inv; exact ⟨_, h⟩)
      | (obtain ⟨b, o, _, _, h⟩ := e.rptr_inv; exact ⟨_, h⟩)
      | cases hv
  obtain ⟨ad, had⟩ := this
  exact ⟨a.eval x, w, by simp [execOp, had], ext_refl w, e⟩
def stepF (σ : St) : Op → Option AV
  | .move x => some (σ.ev x)
  | .assign x => some (σ.ev x)
  | .pick c x y => match σ.ev c with
    | .bool true => some (σ.ev x)
    | .bool false => some (σ.ev y)
    | _ => none
  | .unOp .not _ x => match σ.ev x with
    | .bool true => some (.bool false)
    | .bool false => some (.bool true)
    | _ => none
  | .extract x i => match σ.ev x with
    | .tup l => l[i]?
    | _ => none
  | .nilCheck x => match σ.ev x with
    | .ptr i f => some (.ptr i f)
    | .eptr a b c e => some (.eptr a b c e)
    | .gptr a b => some (.gptr a b)
    | .rptr f l => some (.rptr f l)
    | _ => none
  | _ => none
theorem stepF_qd {v : AV} (h : stepF σ o.op = some v) : Qd C o σ v := by
  obtain ⟨d, op, ty, pos, af, g⟩ := o
  simp only at h
  unfold stepF at h
  split at h
  · cases h; exact q_move rfl
  · cases h; exact q_assign rfl
  · split at h
    · rename_i hc; cases h; exact q_pick hc rfl
    · rename_i hc; cases h; exact q_pick hc rfl
    · cases h
  · split at h
    · rename_i hx; cases h; exact q_not hx
    · rename_i hx; cases h; exact q_not hx
    · cases h
  · split at h
    · rename_i hx; exact q_extract hx h
    · cases h
  · split at h
    · rename_i hx; cases h; exact q_nilCheck hx rfl
    · rename_i hx; cases h; exact q_nilCheck hx rfl
    · rename_i hx; cases h; exact q_nilCheck hx rfl
    · rename_i hx; cases h; exact q_nilCheck hx rfl
    · cases h
  · cases h
def runs (ops : Array Oper) (σ : St) (o : Oper) : Option Bool := match o.guard with
  | none => some true
  | some (j, want) => match ops[j]? with
    | none => none
    | some p => match p.dst with
      | none => none
      | some d => match σ.env d with
        | .bool true => some want
        | .bool false => some (!want)
        | .tup [] => some false
        | _ => none
theorem runs_spec {b : Bool} (h : runs ops σ o = some b) : o.guard = none ∧ b = true ∨ ∃ j want d, o.guard = some (j, want) ∧ (ops[j]?).bind (·.dst) = some d ∧ GV (σ.env d) want = some b := by
  unfold runs at h
  split at h
  · rename_i hg; cases h; exact .inl ⟨hg, rfl⟩
  · rename_i j want hg
    split at h
    · cases h
    · rename_i p hp
      split at h
      · cases h
      · rename_i d hd
        refine .inr ⟨j, want, d, hg, by rw [hp]; exact hd, ?_⟩
        split at h
        · rename_i hv; cases h; rw [hv]; cases b <;> rfl
        · rename_i hv; cases h; rw [hv]; cases want <;> rfl
        · rename_i hv; cases h; rw [hv]; rfl
        · cases h
theorem GV_true {v : AV} {want : Bool} (h : GV v want = some true) : v = .bool want := by
  unfold GV at h
  split at h
  · rename_i b
    have : b = want := by simpa using h
    rw [this]
  · cases h
  · cases h
theorem st_r {v : AV} (hr : runs ops σ o = some true) (hq : Qd C o σ v) (hk : Steps C wr ops rest (σ.puto o.dst v) K) : Steps C wr ops (o :: rest) σ K := by
  rcases runs_spec hr with ⟨hg, _⟩ | ⟨j, want, d, hg, hd, hv⟩
  · exact st_q hg hq hk
  · exact st_gq hg hd (GV_true hv) hq hk
theorem st_rw {σ' : St} (hr : runs ops σ o = some true) (hw : wr o = true) (hq : Wr C o σ σ') (hk : Steps C wr ops rest σ' K) : Steps C wr ops (o :: rest) σ K := by
  rcases runs_spec hr with ⟨hg, _⟩ | ⟨j, want, d, hg, hd, hv⟩
  · exact st_w hg hw hq hk
  · exact st_gw hg hd (GV_true hv) hw hq hk
theorem st_n (hr : runs ops σ o = some false) (hk : Steps C wr ops rest (σ.puto o.dst UN) K) : Steps C wr ops (o :: rest) σ K := by
  rcases runs_spec hr with ⟨_, hb⟩ | ⟨j, want, d, hg, hd, hv⟩
  · cases hb
  · exact st_gn hg hd hv hk
theorem st_rif {p : Prop} {dp : Decidable p} (hr : runs ops σ o = some true) (hq : Qd C o σ (.bool (decide p))) (h1 : p → Steps C wr ops rest (σ.puto o.dst (.bool true)) K) (h2 : ¬ p → Steps C wr ops rest (σ.puto o.dst (.bool false)) K) : Steps C wr ops (o :: rest) σ K := by
  refine st_r hr hq ?_
  by_cases hp : p
  · rw [decide_eq_true hp]; exact h1 hp
  · rw [decide_eq_false hp]; exact h2 hp
def stepG (ops : Array Oper) (σ : St) (o : Oper) : Option AV := match runs ops σ o with
  | some true => stepF σ o.op
  | some false => some UN
  | none => none
theorem st_f {v : AV} (h : stepG ops σ o = some v) (hk : Steps C wr ops rest (σ.puto o.dst v) K) : Steps C wr ops (o :: rest) σ K := by
  unfold stepG at h
  split at h
  · rename_i hr; exact st_r hr (stepF_qd h) hk
  · rename_i hr; cases h; exact st_n hr hk
  · cases h
end
end Go.Proofs.YtignjjnflcpiiaaGreatDoor
/- Contracts: what a function without effects comes to; how it is shown from its code; how it is used at a call. -/
namespace Go.Proofs.YtignjjnflcpiiaaGreatDoor
open Go.RowKit
def AV.fl : AV → AV
  | .bool b => .bool b
  | .int k n => .int k n
  | .str s => .str s
  | .nilp => .nilp
  | .nils => .nils
  | .nili => .nili
  | _ => .any
theorem Rep.fl {w w' : World} {N N' : Nat} {M M' : Nat → Prop} {γ γ' : Nat → Value} {v : AV} {x : Value} (h : Rep w N M γ v x) : Rep w' N' M' γ' v.fl x := by
  cases h <;> first
    | exact .any _ _
    | exact .bool _ _
    | exact .int _ _ _
    | exact .str _ _
    | exact .nilp _
    | exact .nils _
    | exact .nili _
def AV.fc (H : Heap) (fr : Bool) : AV → AV
  | .bool b => .bool b
  | .int k n => .int k n
  | .str s => .str s
  | .nilp => .nilp
  | .nils => .nils
  | .nili => .nili
  | .sl id => match H id with
    | some (.rows _ sz rows) => .ro fr sz rows
    | some (.pts f _ l) => .pts (fr && f) l
    | _ => .any
  | .ro f sz rows => .ro (fr && f) sz rows
  | .pts f l => .pts (fr && f) l
  | _ => .any
def rptrOf (fr : Bool) : List AV → AV
  | [] => .any
  | v :: r => .rptr fr (v :: r)
mutual
def AV.fz (H : Heap) (fr : Bool) : AV → AV
  | .ptr id fo => match H id with
    | some (.box cells) => rptrOf fr ((cells.drop fo).map (AV.fc H fr))
    | _ => .any
  | .eptr _ _ _ _ | .sub _ _ _ _ => .any
  | .sl id => match H id with
    | some (.rows _ sz rows) => .ro fr sz rows
    | some (.pts f _ l) => .pts (fr && f) l
    | _ => .any
  | .ro f sz rows => .ro (fr && f) sz rows
  | .pts f l => .pts (fr && f) l
  | .rptr f l => .rptr (fr && f) (AV.fzL (fun _ => none) fr l)
  | .iface t v => .iface t (v.fz H fr)
  | .agg l => .agg (AV.fzL H fr l)
  | .tup l => .tup (AV.fzL H fr l)
  | .clo f l => .clo f (AV.fzL H fr l)
  | v => v
def AV.fzL (H : Heap) (fr : Bool) : List AV → List AV
  | [] => []
  | v :: r => v.fz H fr :: AV.fzL H fr r
end
theorem fzL_length (H : Heap) (fr : Bool) : ∀ l, (AV.fzL H fr l).length = l.length
  | [] => rfl
  | v :: r => by rw [AV.fzL, List.length_cons, List.length_cons, fzL_length H fr r]
theorem fzL_get (H : Heap) (fr : Bool) : ∀ (l : List AV) (i : Nat) (h : i < (AV.fzL H fr l).length) (h' : i < l.length), (AV.fzL H fr l)[i] = (l[i]).fz H fr
  | v :: r, 0, _, _ => rfl
  | v :: r, i + 1, h, h' => by
    simp only [AV.fzL, List.getElem_cons_succ]
    exact fzL_get H fr r i _ _
theorem Rep.frzM {C : Cx} {γ : Gh} {H HS : Heap} {w : World} (hr : HR C γ H w) (hsub : ∀ id o, HS id = some o → H id = some o) {M' : Nat → Prop} (hM1 : ∀ b, M' b → Mut γ H b) (hM2 : ∀ id o b, HS id = some o → vblock (γ id).1 = some b → ¬ M' b)
    (fr : Bool) {N' : Nat} (hN : fr = true → N' ≤ C.N) (hM : fr = true → ∀ id o b, HS id = some o → vblock (γ id).1 = some b → ¬ C.M0 b) {v : AV} {x : Value} (h : Rep w C.N (Mut γ H) (fun i => (γ i).1) v x) : Rep w N' M' g0 (v.fz HS fr) x := by
  have sub : ∀ {f : Bool} {b : Nat}, Still C.N (Mut γ H) f b → Still N' M' (fr && f) b := by
    intro f b hs
    refine ⟨fun x => hs.1 (hM1 b x), fun hf => ?_⟩
    rw [Bool.and_eq_true] at hf
    exact Nat.le_trans (hN hf.1) (hs.2 hf.2)
  have own : ∀ {id : Nat} {o : AObj} {b : Nat}, HS id = some o → vblock (γ id).1 = some b → Still N' M' fr b := by
    intro id o b hid hb
    refine ⟨hM2 id o b hid hb, fun hf => ?_⟩
    rcases (hr.lt id o b (hsub id o hid) (.inl hb)).2 with h | h
    · exact absurd h (hM hf id o b hid hb)
    · exact Nat.le_trans (hN hf) h
  have slc : ∀ id, Rep w N' M' g0 (match HS id with
    | some (.rows _ sz rows) => .ro fr sz rows
    | some (.pts f _ l) => .pts (fr && f) l
    | _ => .any) (γ id).1 := by
    intro id
    cases ho : HS id with
    | none => exact .any _ _
    | some o =>
      cases o with
      | box cells => exact .any _ _
      | bld e eb l => exact .any _ _
      | iter s pos => exact .any _ _
      | nest cells k e sz rows => exact .any _ _
      | rows e sz rows =>
        refine .ro _ _ _ _ _ ?_
        obtain ⟨v, cs, hg, hown, hs, hl, hrr⟩ := hr.obj id _ (hsub _ _ ho)
        have hv : (γ id).1 = v := by rw [hg]
        show RowsAt w _ sz rows (γ id).1
        rw [hv]
        obtain ⟨hcl, h2⟩ := hown
        rcases h2 with ⟨rfl, h0⟩ | ⟨g, cap, cur, rfl, _, hh, hnc, _, hcs, htk⟩
        · exact .inl ⟨List.eq_nil_of_length_eq_zero h0, none, 0, by simp, fun _ => rfl⟩
        · rcases Nat.eq_zero_or_pos rows.length with h0 | h0
          · exact .inl ⟨List.eq_nil_of_length_eq_zero h0, some ⟨g, 0, none⟩, cap, by rw [h0], fun h => by cases h⟩
          · have idx : ∀ i, i < rows.length → ∀ j, j < sz → i * sz + j < rows.length * sz := by
              intro i hi j hj
              have : (i + 1) * sz ≤ rows.length * sz := Nat.mul_le_mul_right _ hi
              rw [Nat.add_mul] at this; omega
            refine .inr ⟨g, 0, cap, fun i j => cs.getD (i * sz + j) undef, rfl, own ho (by rw [hv]; rfl), h0, hs, hnc, fun i hi j hj => ?_, hl, fun i hi j hj => ?_⟩
            · have h1 := idx i hi j hj
              rw [cell_of_row w g _ cur e (0, 0) hh]
              show _ = some (cs.getD (i * sz + j) undef)
              rw [List.getD_eq_getElem?_getD, Nat.zero_add]
              rw [← htk] at hcl ⊢
              rw [List.getElem?_take, if_pos h1]
              have : i * sz + j < cur.size := by
                rw [List.length_take, Array.length_toList (xs := cur)] at hcl
                omega
              simp [this]
            · obtain ⟨x, hx, hf⟩ := hrr i hi j hj
              show FRep _ (cs.getD (i * sz + j) undef)
              rw [List.getD_eq_getElem?_getD, hx]
              exact hf
      | pts f e l =>
        refine .pts _ _ _ _ ?_
        obtain ⟨v, cs, hg, hown, hrr⟩ := hr.obj id _ (hsub _ _ ho)
        have hv : (γ id).1 = v := by rw [hg]
        show PtsRep w _ l (γ id).1
        rw [hv]
        obtain ⟨hcl, h2⟩ := hown
        rcases h2 with ⟨rfl, h0⟩ | ⟨g, cap, cur, rfl, _, hh, hnc, _, hcs, htk⟩
        · have : l = [] := List.eq_nil_of_length_eq_zero h0
          subst this
          exact .nil none 0 (fun _ => rfl)
        · rcases Nat.eq_zero_or_pos l.length with h0 | h0
          · have : l = [] := List.eq_nil_of_length_eq_zero h0
            subst this
            exact .nil _ _ (fun h => by cases h)
          · have cell : ∀ k v, k < l.length * 4 → cs[k]? = some v → w.cell? ⟨g, 0 + k, none⟩ = some v := by
              intro k v hk hv
              rw [Nat.zero_add, cell_of_row w g _ cur e (0, 0) hh]
              rw [← htk, List.getElem?_take, if_pos hk] at hv
              simpa using hv
            have at4 := fun i (hi : i < l.length) => hrr i hi
            refine .mk l g 0 cap (fun i => cs.getD (i * 4) undef) (fun i => cs.getD (i * 4 + 3) undef) (have hown := own ho (by rw [hv]; rfl); ⟨hown.1, fun hf => hown.2 (by rw [Bool.and_eq_true] at hf; exact hf.1)⟩) h0 hnc (fun i hi => ?_) (fun i hi => ?_) (fun i hi => ?_)
            · obtain ⟨a, b, h1, h2, h3, h4, _⟩ := at4 i hi
              simp only [Nat.add_zero] at h1
              simp only at h4
              refine ⟨?_, cell _ _ (by omega) h2, cell _ _ (by omega) h3, ?_⟩
              · have := cell (i * 4) a (by omega) h1
                rw [List.getD_eq_getElem?_getD, h1]; exact this
              · have := cell (i * 4 + 3) b (by omega) h4
                rw [List.getD_eq_getElem?_getD, h4]; exact this
            · obtain ⟨a, b, h1, h2, h3, h4, h5, h6⟩ := at4 i hi
              simp only [Nat.add_zero] at h1
              rw [List.getD_eq_getElem?_getD, h1]
              exact h5.mono (fun b o v hok hc => ⟨sub hok, hc⟩)
            · obtain ⟨a, b, h1, h2, h3, h4, h5, h6⟩ := at4 i hi
              simp only at h4
              rw [List.getD_eq_getElem?_getD, h4]
              exact h6.mono (fun b o v hok hc => ⟨sub hok, hc⟩)
  have fcr : ∀ (v : AV) (x : Value), Rep w C.N (Mut γ H) (fun i => (γ i).1) v x → Rep w N' M' g0 (v.fc HS fr) x := by
    intro v x h
    cases h <;> first
      | exact .any _ _
      | exact .bool _ _
      | exact .int _ _ _
      | exact .str _ _
      | exact .nilp _
      | exact .nils _
      | exact .nili _
      | exact slc _
      | exact .ro _ _ _ _ _ (RowsAt.mono (fun b o v hok hc => ⟨sub hok, hc⟩) (by assumption))
      | exact .pts _ _ _ _ (PtsRep.mono (fun b o v hok hc => ⟨sub hok, hc⟩) (by assumption))
  suffices key : ∀ (δ : Nat → Value) (v : AV) (x : Value), Rep w C.N (Mut γ H) δ v x → ∀ H' : Heap, (δ = (fun i => (γ i).1) ∧ H' = HS) ∨ (H' = fun _ => none) → Rep w N' M' g0 (v.fz H' fr) x from key _ v x h HS (.inl ⟨rfl, rfl⟩)
  clear h v x
  intro δ v x h
  induction h with
  | any γ v => intro H' _; exact .any _ _
  | bool γ b => intro H' _; exact .bool _ _
  | int γ k n => intro H' _; exact .int _ _ _
  | str γ s => intro H' _; exact .str _ _
  | nilp γ => intro H' _; exact .nilp _
  | ptr δ id fo b h =>
    intro H' hδ
    rw [AV.fz]
    cases ho : H' id with
    | none => exact .any _ _
    | some o =>
      rcases hδ with ⟨rfl, rfl⟩ | rfl
      · cases o with
        | box cells =>
          simp only
          obtain ⟨bb, c, e, hg, hh, hs, hrr⟩ := hr.obj id _ (hsub _ _ ho)
          have hb : bb = b := by
            have h' : (γ id).1 = .pointer (some ⟨b, 0, none⟩) := h
            rw [hg] at h'
            cases h'; rfl
          subst hb
          cases hl : (cells.drop fo).map (AV.fc H' fr) with
          | nil => exact .any _ _
          | cons v r =>
            have hlen : ((cells.drop fo).map (AV.fc H' fr)).length = cells.length - fo := by simp
            rw [hl] at hlen
            simp only [List.length_cons] at hlen
            show Rep w N' M' g0 (.rptr fr (v :: r)) _
            rw [← hl]
            refine .rptr _ _ _ _ _ (fun j => (c[fo + j]?).getD undef) (own ho (by rw [hg]; rfl)) (by rw [hl]; simp) (fun j hj => ?_) (fun j hj => ?_)
            · have hj' : fo + j < c.size := by simp only [List.length_map, List.length_drop] at hj; omega
              rw [cell_of_row w bb _ c e (0, 0) hh]
              simp [hj']
            · have hj' : fo + j < cells.length := by simp only [List.length_map, List.length_drop] at hj; omega
              obtain ⟨x, hx, hf⟩ := hrr (fo + j) hj'
              simp only [List.getElem_map, List.getElem_drop, hx, Option.getD_some]
              exact fcr _ _ hf
        | _ => exact .any _ _
      · cases ho
  | sub γ id sz off n g len cap h ho hc => intro H' _; exact .any _ _
  | eptr γ id sz i fo g n cap h => intro H' _; exact .any _ _
  | gptr γ g off => intro H' _; exact .gptr _ _ _
  | rptr δ f cells b o cs hok h0 hc hrr ih =>
    intro H' _
    rw [AV.fz]
    exact .rptr _ _ _ _ _ cs (sub hok) (by rw [fzL_length]; exact h0) (fun j hj => hc j (by rw [fzL_length] at hj; exact hj)) (fun j hj => by
      have hj' : j < cells.length := by rw [fzL_length] at hj; exact hj
      rw [fzL_get _ fr cells j hj hj']
      exact ih j hj' _ (.inr rfl))
  | nils γ => intro H' _; exact .nils _
  | nocap γ a => intro H' _; exact .nocap _ _
  | sl δ id =>
    intro H' hδ
    rw [AV.fz]
    rcases hδ with ⟨rfl, rfl⟩ | rfl
    · exact slc id
    · exact .any _ _
  | ro δ f sz rows v h => intro H' _; exact .ro _ _ _ _ _ (h.mono (fun b o v hok hc => ⟨sub hok, hc⟩))
  | pts δ f l v h => intro H' _; exact .pts _ _ _ _ (h.mono (fun b o v hok hc => ⟨sub hok, hc⟩))
  | nili γ => intro H' _; exact .nili _
  | iface δ t v x h ih => intro H' hδ; rw [AV.fz]; exact .iface _ _ _ _ (ih H' hδ)
  | agg δ l xs hl h ih =>
    intro H' hδ
    rw [AV.fz]
    exact .agg _ _ _ (by rw [fzL_length]; exact hl) (fun i hi hx => by rw [fzL_get H' fr l i hi (by rw [fzL_length] at hi; exact hi)]; exact ih i _ hx H' hδ)
  | tup δ l xs hl h ih =>
    intro H' hδ
    rw [AV.fz]
    exact .tup _ _ _ (by rw [fzL_length]; exact hl) (fun i hi hx => by rw [fzL_get H' fr l i hi (by rw [fzL_length] at hi; exact hi)]; exact ih i _ hx H' hδ)
  | clo δ f l xs hl h ih =>
    intro H' hδ
    rw [AV.fz]
    exact .clo _ _ _ _ (by rw [fzL_length]; exact hl) (fun i hi hx => by rw [fzL_get H' fr l i hi (by rw [fzL_length] at hi; exact hi)]; exact ih i _ hx H' hδ)
theorem Rep.frz {C : Cx} {γ : Gh} {H : Heap} {w : World} (hr : HR C γ H w) (fr : Bool) {N' : Nat} (hN : fr = true → N' ≤ C.N) (hM : fr = true → ∀ b, ¬ C.M0 b) {v : AV} {x : Value} (h : Rep w C.N (Mut γ H) (fun i => (γ i).1) v x) : Rep w N' (fun _ => False) g0 (v.fz H fr) x :=
  h.frzM hr (fun _ _ h => h) (fun _ h => h.elim) (fun _ _ _ _ _ h => h) fr hN (fun hf _ _ b _ _ => hM hf b)
mutual
def AV.allFr : AV → Bool
  | .ptr _ _ | .eptr _ _ _ _ | .sl _ | .sub _ _ _ _ => false
  | .ro f _ _ | .pts f _ => f
  | .rptr f l => match f with
    | true => AV.allFrL l
    | false => false
  | .iface _ v => v.allFr
  | .agg l | .tup l | .clo _ l => AV.allFrL l
  | _ => true
def AV.allFrL : List AV → Bool
  | [] => true
  | v :: r => match v.allFr with
    | true => AV.allFrL r
    | false => false
end
theorem allFrL_get : ∀ (l : List AV), AV.allFrL l = true → ∀ i (h : i < l.length), (l[i]).allFr = true
  | v :: r, hl, i, h => by
    rw [AV.allFrL] at hl
    cases hv : v.allFr with
    | false => rw [hv] at hl; cases hl
    | true =>
      rw [hv] at hl
      match i, h with
      | 0, _ => exact hv
      | i + 1, h => exact allFrL_get r hl i (by simpa using h)
theorem Rep.freshM {w : World} {N N' : Nat} {M0 M : Nat → Prop} {v : AV} {x : Value} (h : Rep w N M0 g0 v x) (hf : v.allFr = true) (hN : N' ≤ N) (hM : ∀ b, N ≤ b → ¬ M0 b → ¬ M b) : ∀ γ, Rep w N' M γ v x := by
  have st : ∀ {b : Nat}, Still N M0 true b → Still N' M true b := fun hs => ⟨hM _ (hs.2 rfl) hs.1, fun _ => Nat.le_trans hN (hs.2 rfl)⟩
  generalize g0 = δ at h
  induction h with
  | any γ v => exact fun γ' => .any _ _
  | bool γ b => exact fun γ' => .bool _ _
  | int γ k n => exact fun γ' => .int _ _ _
  | str γ s => exact fun γ' => .str _ _
  | nilp γ => exact fun γ' => .nilp _
  | ptr γ id fo b h => cases hf
  | eptr γ id sz i fo g n cap h => cases hf
  | sub γ id sz off n g len cap h ho hc => cases hf
  | gptr γ g off => exact fun γ' => .gptr _ _ _
  | rptr γ fr cells b o cs hok h0 hc hr ih =>
    intro γ'
    cases fr with
    | false => cases hf
    | true => exact .rptr _ _ _ _ _ cs (st hok) h0 hc (fun j hj => ih j hj (allFrL_get _ hf j hj) g0)
  | nils γ => exact fun γ' => .nils _
  | nocap γ a => exact fun γ' => .nocap _ _
  | sl γ id => cases hf
  | ro γ fr sz rows v h =>
    intro γ'
    have : fr = true := hf
    subst this
    exact .ro _ _ _ _ _ (h.mono (fun b o v hok hc => ⟨st hok, hc⟩))
  | pts γ fr l v h =>
    intro γ'
    have : fr = true := hf
    subst this
    exact .pts _ _ _ _ (h.mono (fun b o v hok hc => ⟨st hok, hc⟩))
  | nili γ => exact fun γ' => .nili _
  | iface γ t v x h ih => exact fun γ' => .iface _ _ _ _ (ih hf γ')
  | agg γ l xs hl h ih => exact fun γ' => .agg _ _ _ hl (fun i hi hx => ih i hi hx (allFrL_get _ hf i hi) γ')
  | tup γ l xs hl h ih => exact fun γ' => .tup _ _ _ hl (fun i hi hx => ih i hi hx (allFrL_get _ hf i hi) γ')
  | clo γ f l xs hl h ih => exact fun γ' => .clo _ _ _ _ hl (fun i hi hx => ih i hi hx (allFrL_get _ hf i hi) γ')
theorem Rep.fresh {w : World} {N N' : Nat} {M : Nat → Prop} {v : AV} {x : Value} (h : Rep w N (fun _ => False) g0 v x) (hf : v.allFr = true) (hN : N' ≤ N) (hM : ∀ b, N ≤ b → ¬ M b) : ∀ γ, Rep w N' M γ v x := h.freshM hf hN (fun b hb _ => hM b hb)
mutual
def AV.noFr : AV → Bool
  | .ro f _ _ | .pts f _ => !f
  | .rptr f l => match f with
    | true => false
    | false => AV.noFrL l
  | .iface _ v => v.noFr
  | .agg l | .tup l | .clo _ l => AV.noFrL l
  | _ => true
def AV.noFrL : List AV → Bool
  | [] => true
  | v :: r => match v.noFr with
    | true => AV.noFrL r
    | false => false
end
theorem noFrL_get : ∀ (l : List AV), AV.noFrL l = true → ∀ i (h : i < l.length), (l[i]).noFr = true
  | v :: r, hl, i, h => by
    rw [AV.noFrL] at hl
    cases hv : v.noFr with
    | false => rw [hv] at hl; cases hl
    | true =>
      rw [hv] at hl
      match i, h with
      | 0, _ => exact hv
      | i + 1, h => exact noFrL_get r hl i (by simpa using h)
theorem Rep.old {w : World} {N N' : Nat} {M : Nat → Prop} {γ : Nat → Value} {v : AV} {x : Value} (h : Rep w N M γ v x) (hf : v.noFr = true) : Rep w N' M γ v x := by
  have st : ∀ {b : Nat}, Still N M false b → Still N' M false b := fun hs => ⟨hs.1, fun h => by cases h⟩
  induction h with
  | any γ v => exact .any _ _
  | bool γ b => exact .bool _ _
  | int γ k n => exact .int _ _ _
  | str γ s => exact .str _ _
  | nilp γ => exact .nilp _
  | ptr γ id fo b h => exact .ptr _ _ _ _ h
  | eptr γ id sz i fo g n cap h => exact .eptr _ _ _ _ _ _ _ _ h
  | sub γ id sz off n g len cap h ho hc => exact .sub _ _ _ _ _ _ _ _ h ho hc
  | gptr γ g off => exact .gptr _ _ _
  | rptr γ fr cells b o cs hok h0 hc hr ih =>
    cases fr with
    | true => cases hf
    | false => exact .rptr _ _ _ _ _ cs (st hok) h0 hc (fun j hj => ih j hj (noFrL_get _ hf j hj))
  | nils γ => exact .nils _
  | nocap γ a => exact .nocap _ _
  | sl γ id => exact .sl _ _
  | ro γ fr sz rows v h =>
    have : fr = false := by simpa [AV.noFr] using hf
    subst this
    exact .ro _ _ _ _ _ (h.mono (fun b o v hok hc => ⟨st hok, hc⟩))
  | pts γ fr l v h =>
    have : fr = false := by simpa [AV.noFr] using hf
    subst this
    exact .pts _ _ _ _ (h.mono (fun b o v hok hc => ⟨st hok, hc⟩))
  | nili γ => exact .nili _
  | iface γ t v x h ih => exact .iface _ _ _ _ (ih hf)
  | agg γ l xs hl h ih => exact .agg _ _ _ hl (fun i hi hx => ih i hi hx (noFrL_get _ hf i hi))
  | tup γ l xs hl h ih => exact .tup _ _ _ hl (fun i hi hx => ih i hi hx (noFrL_get _ hf i hi))
  | clo γ f l xs hl h ih => exact .clo _ _ _ _ hl (fun i hi hx => ih i hi hx (noFrL_get _ hf i hi))
def CPure (X : Gx) (f : FuncId) (as : List AV) (res : AV) : Prop :=
  ∀ (w : World) (vs : List Value), X.G w → X.nG ≤ w.heap.size → vs.length = as.length → (∀ i (h : i < as.length) (h' : i < vs.length), Rep w 0 (fun _ => False) g0 as[i] vs[i]) →
    Calls X.P f vs.toArray w (fun e w' => ∃ v, e = .returned v ∧ Ext w w' ∧ Rep w' w.heap.size (fun _ => False) g0 res v)
def cx (X : Gx) (n : Nat) (w : World) (hn : X.nG ≤ w.heap.size) : Cx := { X with n := n, w0 := w, M0 := fun _ => False, pin := fun _ => none, hn := hn, hM := fun _ h => h.elim }
def St.start (as : List AV) : St := ⟨fun i => as.getD i .any, fun _ => none⟩
def aggB (P : Program) (t : TypeId) (n : Nat) : Bool := (match P.underlying t with
  | some (.struct _) | some (.array _ _) => true
  | _ => false) && (match P.info? t with
  | some i => Nat.beq i.size n
  | none => false)
def scalB (P : Program) (t : TypeId) : Bool := match P.underlying t with
  | some (.struct _) | some (.array _ _) | none => false
  | _ => true
theorem aggB_spec {P : Program} {t : TypeId} {n : Nat} (h : aggB P t n = true) (w : World) : (isAgg t).run P w = .ok true w ∧ (sizeOf t).run P w = .ok n w := by
  unfold aggB at h
  rw [Bool.and_eq_true] at h
  obtain ⟨h1, h2⟩ := h
  constructor
  · cases hu : P.underlying t with
    | none => rw [hu] at h1; cases h1
    | some d =>
      rw [hu] at h1
      cases d <;> first
        | (simp [isAgg, run_underlying hu]; done)
        | cases h1
  · cases hi : P.info? t with
    | none => rw [hi] at h2; cases h2
    | some i =>
      rw [hi] at h2
      simp [sizeOf, typeInfo, hi, Nat.eq_of_beq_eq_true h2]
theorem scalB_spec {P : Program} {t : TypeId} (h : scalB P t = true) (w : World) : (isAgg t).run P w = .ok false w := by
  unfold scalB at h
  cases hu : P.underlying t with
  | none => rw [hu] at h; cases h
  | some d =>
    rw [hu] at h
    cases d <;> first
      | (simp [isAgg, run_underlying hu]; done)
      | cases h
def cellOk (P : Program) (σ : St) : List ResultVar → Prop
  | [] => True
  | .tmp _ :: r => cellOk P σ r
  | .cell a t :: r => (∃ id cells, σ.env a = .ptr id 0 ∧ σ.heap id = some (.box cells) ∧ aggB P t cells.length = true) ∧ cellOk P σ r
def retLH (HS : Heap) (σ : St) : List ResultVar → List AV
  | [] => []
  | .tmp t :: r => (σ.env t).fz HS true :: retLH HS σ r
  | .cell a _ :: r => (match σ.env a with
    | .ptr id _ => match σ.heap id with
      | some (.box cells) => (AV.agg cells).fz HS true
      | _ => .any
    | _ => .any) :: retLH HS σ r
abbrev retL (σ : St) : List ResultVar → List AV := retLH σ.heap σ
def retV : List AV → AV
  | [v] => v
  | l => .tup l
def RetQ (P : Program) (rs : List ResultVar) (res : AV) : Exit → St → Prop
  | .normal, σ | .ret, σ => cellOk P σ rs ∧ retV (retL σ rs) = res
  | _, _ => False
theorem box_cells {C : Cx} {γ : Gh} {H : Heap} {w : World} (h : HR C γ H w) {id : Nat} {cells : List AV} (hid : H id = some (.box cells)) : ∃ b c e, (γ id).1 = .pointer (some ⟨b, 0, none⟩) ∧ w.heap[b]? = some (.cells c e (0, 0)) ∧ c.size = cells.length ∧
    ∀ j (h : j < cells.length), ∃ v, c[j]? = some v ∧ Rep w C.N (Mut γ H) (fun i => (γ i).1) cells[j] v := by
  obtain ⟨b, c, e, h1, h2, h3, h4⟩ := h.obj id _ hid
  exact ⟨b, c, e, by rw [h1], h2, h3, h4⟩
theorem box_agg {C : Cx} {γ : Gh} {H : Heap} {w : World} (h : HR C γ H w) {id : Nat} {cells : List AV} (hid : H id = some (.box cells)) {t : TypeId} (ht : aggB C.P t cells.length = true) :
    ∃ b x, (γ id).1 = .pointer (some ⟨b, 0, none⟩) ∧ (loadVar t ⟨b, 0, none⟩).run C.P w = .ok x w ∧ Rep w C.N (Mut γ H) (fun i => (γ i).1) (.agg cells) x := by
  obtain ⟨b, c, e, h1, h2, h3, h4⟩ := box_cells h hid
  refine ⟨b, .agg c.toList.toArray, h1, ?_, .agg _ _ _ (by simpa using h3) (fun i hi hx => ?_)⟩
  · obtain ⟨a1, a2⟩ := aggB_spec ht w
    have hl := run_loadCells_list (P := C.P) (w := w) ⟨b, 0, none⟩ c.toList (fun j v hj => by
      have : (⟨b, 0, none⟩ : Addr).add j = ⟨b, j, none⟩ := by rw [Addr.add_lit, Nat.zero_add]
      rw [this, cell_of_row w b j c e (0, 0) h2]
      simpa using hj)
    have h3' : c.toList.length = cells.length := by simpa using h3
    rw [h3'] at hl
    simp only [loadVar, Sem.run_bind, a1, a2, Result.andThen_ok, if_true]
    rw [hl]
    rfl
  · obtain ⟨v, hv, hr⟩ := h4 i hi
    have : c.toList[i] = v := by
      have hc := (Array.getElem?_eq_some_iff.1 hv).2
      simpa using hc
    rw [this]
    exact hr
theorem rep_retV {w : World} {N : Nat} {M : Nat → Prop} {γ : Nat → Value} : ∀ (l : List AV) (xs : List Value), l.length = xs.length → (∀ i (h : i < l.length) (h' : i < xs.length), Rep w N M γ l[i] xs[i]) →
    Rep w N M γ (retV l) (if h : xs.toArray.size = 1 then xs.toArray[0] else .tuple xs.toArray)
  | [v], [x], _, h => h 0 (by simp) (by simp)
  | [], [], _, _ => .tup _ [] [] rfl (fun i h => absurd h (Nat.not_lt_zero _))
  | v :: u :: vs, x :: y :: xs, hl, h => by
    rw [dif_neg (by simp)]
    exact .tup _ _ _ hl.symm h
  | [], _ :: _, hl, _ => by simp at hl
  | _ :: _, [], hl, _ => by simp at hl
  | [_], _ :: _ :: _, hl, _ => by simp at hl
  | _ :: _ :: _, [_], hl, _ => by simp at hl
theorem mapM_results {P : Program} {w : World} {tmps : Array Value} : ∀ (rs : List ResultVar) (xs : List Value), rs.length = xs.length →
    (∀ i (h : i < rs.length) (h' : i < xs.length), ((match rs[i] with | .tmp t => pure (tmps.getD t undef) | .cell a t => do loadVar t (← asAddr (tmps.getD a undef)) : Sem Value)).run P w = .ok xs[i] w) →
    (rs.mapM (fun | .tmp t => pure (tmps.getD t undef) | .cell a t => do loadVar t (← asAddr (tmps.getD a undef)) : ResultVar → Sem Value)).run P w = .ok xs w
  | [], [], _, _ => rfl
  | r :: rs, x :: xs, hl, h => by
    have h0 := h 0 (by simp) (by simp)
    have ih := mapM_results rs xs (by simpa using hl) (fun i hi hx => h (i + 1) (by simpa using hi) (by simpa using hx))
    simp only [List.getElem_cons_zero] at h0
    rw [List.mapM_cons]
    simp only [Sem.run_bind, h0, ih, Result.andThen_ok, Sem.run_pure]
theorem run_resultsH {C : Cx} {γ : Gh} {σ : St} {a : Act} {w : World} {fn : Func} (HS : Heap) (M' : Nat → Prop) (s : SR C γ σ a w) (hfz : ∀ v x, Rep w C.N (Mut γ σ.heap) (fun i => (γ i).1) v x → Rep w C.N M' g0 (v.fz HS true) x) (hc : cellOk C.P σ fn.results.toList) :
    ∃ v, (results fn a.tmps).run C.P w = .ok v w ∧ Rep w C.N M' g0 (retV (retLH HS σ fn.results.toList)) v := by
  have key : ∀ rs : List ResultVar, cellOk C.P σ rs → ∃ xs : List Value, rs.length = xs.length ∧ (∀ i (h : i < rs.length) (h' : i < xs.length), ((match rs[i] with | .tmp t => pure (a.tmps.getD t undef) | .cell b t => do loadVar t (← asAddr (a.tmps.getD b undef)) : Sem Value)).run C.P w = .ok xs[i] w) ∧
      (retLH HS σ rs).length = xs.length ∧ ∀ i (h : i < (retLH HS σ rs).length) (h' : i < xs.length), Rep w C.N M' g0 (retLH HS σ rs)[i] xs[i] := by
    intro rs
    induction rs with
    | nil => exact fun _ => ⟨[], rfl, fun i h => absurd h (Nat.not_lt_zero _), rfl, fun i h => absurd h (Nat.not_lt_zero _)⟩
    | cons r rs ih =>
      intro hc
      cases r with
      | tmp t =>
        obtain ⟨xs, h1, h2, h3, h4⟩ := ih hc
        refine ⟨a.tmps.getD t undef :: xs, by simp [h1], fun i hi hx => ?_, by simp [retLH, h3], fun i hi hx => ?_⟩
        · cases i with
          | zero => rfl
          | succ i => exact h2 i (by simpa using hi) (by simpa using hx)
        · cases i with
          | zero => exact hfz _ _ (s.env t)
          | succ i => exact h4 i (by simpa [retLH] using hi) (by simpa using hx)
      | cell b t =>
        obtain ⟨⟨id, cells, e1, e2, e3⟩, hc⟩ := hc
        obtain ⟨xs, h1, h2, h3, h4⟩ := ih hc
        obtain ⟨bb, x, e4, e5, e6⟩ := box_agg s.toHR e2 e3
        have ev := s.env b
        rw [e1] at ev
        obtain ⟨b', e7, e8⟩ := ev.ptr_inv
        rw [e4] at e7
        cases e7
        refine ⟨x :: xs, by simp [h1], fun i hi hx => ?_, by simp [retLH, h3], fun i hi hx => ?_⟩
        · cases i with
          | zero =>
            simp only [List.getElem_cons_zero, Sem.run_bind]
            rw [e8]
            simp only [asAddr, Sem.run_pure, Result.andThen_ok]
            exact e5
          | succ i => exact h2 i (by simpa using hi) (by simpa using hx)
        · cases i with
          | zero =>
            simp only [retLH, e1, e2, List.getElem_cons_zero]
            exact hfz _ _ e6
          | succ i => exact h4 i (by simpa [retLH] using hi) (by simpa using hx)
  obtain ⟨xs, h1, h2, h3, h4⟩ := key _ hc
  have hm := mapM_results (P := C.P) (w := w) (tmps := a.tmps) fn.results.toList xs h1 h2
  have hr : (results fn a.tmps).run C.P w = .ok (if h : xs.toArray.size = 1 then xs.toArray[0] else .tuple xs.toArray) w := by
    unfold results
    rw [Array.mapM_eq_mapM_toList]
    simp only [Sem.run_bind, Sem.run_map, Sem.run_pure]
    exact congrArg (fun r : Result (List Value) => (r.andThen fun a w' => .ok a.toArray w').andThen fun a w' => .ok (if h : a.size = 1 then a[0] else .tuple a) w') hm
  exact ⟨_, hr, rep_retV _ _ h3 h4⟩
theorem run_results {C : Cx} {γ : Gh} {σ : St} {a : Act} {w : World} {fn : Func} (s : SR C γ σ a w) (hM : ∀ b, ¬ C.M0 b) (hc : cellOk C.P σ fn.results.toList) :
    ∃ v, (results fn a.tmps).run C.P w = .ok v w ∧ Rep w C.N (fun _ => False) g0 (retV (retL σ fn.results.toList)) v :=
  run_resultsH σ.heap _ s (fun v x h => h.frz s.toHR true (fun _ => Nat.le_refl _) (fun _ => hM)) hc
theorem cpure_of {X : Gx} {f : FuncId} {fn : Func} {c : Code} {as : List AV} {res : AV} (hf : X.P.funcs[f]? = some fn) (hb : fn.body = some c) (hn : as.length ≤ fn.ntmps) (ho : AV.noFrL as = true)
    (h : ∀ w (hw : X.nG ≤ w.heap.size), Tri (cx X fn.ntmps w hw) c (St.start as) (RetQ X.P fn.results.toList res)) : CPure X f as res := by
  intro w vs hG hw hl hr
  refine calls_of_wp hf hb (wp_mono (h w hw (fun _ => (undef, undef)) _ w ?_) ?_)
  · refine { obj := fun id o h => (by cases h), disj := fun id id' o o' b h => (by cases h), two := fun id o b h => (by cases h), lt := fun id o b h => (by cases h), chg := Chg.refl _ _, glob := hG, pins := fun id o v h => (by cases h), env := fun t => ?_, size := ?_, defers := rfl }
    · show Rep w w.heap.size _ _ (as.getD t .any) _
      rcases Nat.lt_or_ge t as.length with ht | ht
      · have h1 : as.getD t .any = as[t] := by rw [List.getD_eq_getElem?_getD, List.getElem?_eq_getElem ht]; rfl
        have h2 : (vs.toArray ++ Array.replicate (fn.ntmps - vs.toArray.size) undef).getD t undef = vs[t]'(by omega) := by
          rw [Array.getD_eq_getD_getElem?, Array.getElem?_append_left (by simp; omega)]
          simp [show t < vs.length by omega]
        rw [h1, h2]
        exact ((hr t ht (by omega)).old (noFrL_get _ ho t ht)).mono (fun _ _ _ => rfl) (fun b hb h => by obtain ⟨_, _, h, _⟩ := h; cases h) (Nat.le_refl _) _ (fun _ _ => rfl)
      · have h1 : as.getD t .any = .any := by rw [List.getD_eq_getElem?_getD, List.getElem?_eq_none ht]; rfl
        rw [h1]
        exact .any _ _
    · show (vs.toArray ++ Array.replicate (fn.ntmps - vs.toArray.size) undef).size = fn.ntmps
      simp; omega
  · rintro e a w' ⟨γ, σ, q, s⟩
    cases e with
    | normal =>
      obtain ⟨q1, q2⟩ := q
      obtain ⟨v, h1, h2⟩ := run_results s (fun _ h => h) q1
      rw [q2] at h2
      exact ⟨s.defers, v, h1, v, rfl, (Chg.ext s.chg), h2⟩
    | ret =>
      obtain ⟨q1, q2⟩ := q
      obtain ⟨v, h1, h2⟩ := run_results s (fun _ h => h) q1
      rw [q2] at h2
      exact ⟨s.defers, v, h1, v, rfl, (Chg.ext s.chg), h2⟩
    | _ => exact q.elim
section
variable {C : Cx} {σ : St} {d : Option Nat} {ty : TypeId} {pos : String} {af : Array Edge} {g : Option (Nat × Bool)}
theorem args_rep {γ : Gh} {a : Act} {w : World} (hh : HR C γ σ.heap w) {xs : Array Operand} (he : ∀ x ∈ xs, Rep w C.N (Mut γ σ.heap) (fun i => (γ i).1) (σ.ev x) (a.eval x)) {as : List AV} (ha : AV.fzL σ.heap false (xs.toList.map σ.ev) = as) :
    (xs.map a.eval).toList.length = as.length ∧ ∀ i (h : i < as.length) (h' : i < (xs.map a.eval).toList.length), Rep w 0 (fun _ => False) g0 as[i] (xs.map a.eval).toList[i] := by
  subst ha
  refine ⟨by simp [fzL_length], fun i hi hi' => ?_⟩
  have hx : i < xs.toList.length := by simpa [fzL_length] using hi
  rw [fzL_get _ _ _ _ hi (by simpa using hx)]
  have h1 : (xs.map a.eval).toList[i] = a.eval (xs[i]'(by simpa using hx)) := by simp
  have h2 : (xs.toList.map σ.ev)[i]'(by simpa using hx) = σ.ev (xs[i]'(by simpa using hx)) := by simp
  rw [h1, h2]
  exact (he _ (Array.getElem_mem _)).frz hh false (fun h => by cases h) (fun h => by cases h)
theorem q_call {f : FuncId} {xs : Array Operand} {ts : Array TypeId} {as : List AV} {res : AV} (hc : CPure C.toGx f as res) (hcf : ∀ args w, (callFunc f args).run C.P w = .ok (.enter f args) w)
    (ha : AV.fzL σ.heap false (xs.toList.map σ.ev) = as) (hfr : res.allFr = true) : Qd C ⟨d, .call { callee := .value (.func f), args := xs, argTypes := ts }, ty, pos, af, g⟩ σ res := by
  intro γ σ1 a w s hh he
  have hhr : HR C γ σ.heap w := by rw [← hh]; exact s.toHR
  obtain ⟨h1, h2⟩ := args_rep (σ := σ) hhr (fun x hx => by
    have := s.ev x
    rw [he x (by simp only [Op.operands, Call.operands]; exact Array.mem_append.2 (.inr hx)), hh] at this
    exact this) ha
  have hcall := hc w (xs.map a.eval).toList hhr.glob (Nat.le_trans C.hn hhr.chg.size) h1 h2
  unfold Oper.wp
  have hr : (execOp a.eval ⟨d, .call { callee := .value (.func f), args := xs, argTypes := ts }, ty, pos, af, g⟩).run C.P w = .ok (.enter f (xs.map a.eval)) w := by
    simp [execOp, resolve, Act.eval, Deferred.ofValue, invoke, hcf]
  rw [hr, Oper.upon_enter]
  simp only [Array.toArray_toList] at hcall
  refine hcall.mono ?_
  rintro e w' ⟨v, rfl, hx, hv⟩
  refine ⟨v, rfl, hx, ?_⟩
  exact hv.fresh hfr hhr.chg.size (fun b hb hm => by
    have := Mut.lt (C := C) (σ := σ) hhr hm
    omega) _
end
end Go.Proofs.YtignjjnflcpiiaaGreatDoor
