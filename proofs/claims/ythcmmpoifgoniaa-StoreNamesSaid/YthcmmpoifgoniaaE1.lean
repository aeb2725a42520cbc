/- The engine, part 1: abstract values and objects, and what it means that memory reads as them. -/
import Derived.Calls
import Derived.Tactics
import Derived.WalkKit
import Derived.Orders
import Derived.KernelRfl
set_option linter.unusedVariables false
set_option linter.unusedSimpArgs false
namespace Go.Proofs.Eng

/-- A value without a reference to an object of the engine. 'sl': a slice that nobody writes to: n elements of sz cells each. -/
inductive VV where
  | v (x : Value)
  | sl (sz n : Nat) (get : Nat → List VV)
  | agg (cells : List VV)
  | iface (t : TypeId) (x : VV)

/-- A value. 'full': the slice that covers the whole of an object, which may have room behind it. 'part': a piece of one. 'pe': a pointer into element i of a row. 'xsl': a slice that nobody writes to, without room behind it. 'vp': a pointer to what nobody writes to. -/
inductive NV where
  | p (x : VV)
  | ptr (id off : Nat)
  | pe (id i j : Nat)
  | full (id : Nat)
  | part (id off len : Nat) (exact : Bool)
  | xsl (sz n : Nat) (get : Nat → List VV)
  | vp (cells : List VV)
  | map (id : Nat)
  | fn (f : Fn) (first cap : List NV)
  | agg (xs : List NV)
  | tup (xs : List NV)
  | yld (id : Nat)
  | junk

/-- An object. 'loop': a loop's record. -/
inductive NO where
  | row (T : TypeId) (sz : Nat) (cells : List NV)
  | prow (T : TypeId) (rw : Bool) (sz n : Nat) (get : Nat → List VV)
  | map (es : List (Value × VV))
  | loop (t : List NV) (ps : Array Tmp) (assign body : Code) (st : LoopState) (pend : Option Code)
  | dead

abbrev NH := List NO
abbrev Heap := Array Obj
/-- A place: a block, a cell, for how many elements there is room. -/
structure Loc where
  b : Nat
  z : Fin 1
  k : Nat
/-- Every object begins where its block begins. -/
abbrev Loc.o (l : Loc) : Nat := 0
/-- Where an object lies; nowhere: an empty row without room. -/
abbrev Beta := Nat → Option Loc

def NO.owned : NO → Bool
  | .row .. => true
  | .prow _ rw _ _ _ => rw
  | .map _ => true
  | .loop .. => true
  | .dead => false
def NO.alive : NO → Bool
  | .dead => false
  | _ => true

def cellAt (hp : Heap) (b k : Nat) : Option Value :=
  match hp[b]? with
  | some (.cells c _ _) => c[k]?
  | _ => none

theorem cell?_eq (w : World) (b k : Nat) : w.cell? ⟨b, k, none⟩ = cellAt w.heap b k := by
  simp only [World.cell?, cellAt]
  cases w.heap[b]? with
  | none => rfl
  | some o => cases o <;> simp

/-- What is owned, and what is immutable. -/
def Own (β : Beta) (H : NH) (b : Nat) : Prop := ∃ id o l, H[id]? = some o ∧ o.owned = true ∧ β id = some l ∧ l.b = b
def Imm (hp : Heap) (β : Beta) (H : NH) (b : Nat) : Prop := b < hp.size ∧ ¬ Own β H b

inductive PV (hp : Heap) (imm : Nat → Prop) : VV → Value → Prop where
  | v (x : Value) : PV hp imm (.v x) x
  | sl0 (sz : Nat) (get : Nat → List VV) (a : Option Addr) (c : Nat) : PV hp imm (.sl sz 0 get) (.slice a 0 c)
  | sl (sz n : Nat) (get : Nat → List VV) (b o c : Nat) (z : Nat → Value) (hi : imm b) (hc : n ≤ c)
      (hl : ∀ i, i < n → (get i).length = sz) (hz : ∀ k, k < n * sz → cellAt hp b (o + k) = some (z k) ∧ (z k).oneCell' = true)
      (h : ∀ (i : Nat), i < n → ∀ (j : Nat) (x : VV), (get i)[j]? = some x → PV hp imm x (z (i * sz + j))) :
      PV hp imm (.sl sz n get) (.slice (some ⟨b, o, none⟩) n c)
  | agg (xs : List VV) (ys : Array Value) (hl : ys.size = xs.length) (h : ∀ (i : Nat) (x : VV) (y : Value), xs[i]? = some x → ys[i]? = some y → PV hp imm x y) :
      PV hp imm (.agg xs) (.agg ys)
  | iface (t : TypeId) (x : VV) (y : Value) (h : PV hp imm x y) : PV hp imm (.iface t x) (.iface t y)

theorem PV.mono' {hp hp' : Heap} {imm imm' : Nat → Prop} (hm : ∀ b, imm b → imm' b ∧ ∀ k, cellAt hp' b k = cellAt hp b k) {x : VV} {y : Value}
    (h : PV hp imm x y) : PV hp' imm' x y := by
  induction h with
  | v x => exact .v x
  | sl0 sz get a c => exact .sl0 sz get a c
  | sl sz n get b o c z hi hc hl hz h ih =>
    refine .sl sz n get b o c z (hm b hi).1 hc hl (fun k hk => ?_) (fun i hi' j x hx => ih i hi' j x hx)
    rw [(hm b hi).2]; exact hz k hk
  | agg xs ys hl h ih => exact .agg xs ys hl ih
  | iface t x y h ih => exact .iface t x y ih
theorem cells_of {hp hp' : Heap} {imm imm' : Nat → Prop} (hm : ∀ b, imm b → imm' b ∧ hp'[b]? = hp[b]?) : ∀ b, imm b → imm' b ∧ ∀ k, cellAt hp' b k = cellAt hp b k :=
  fun b hb => ⟨(hm b hb).1, fun k => by simp only [cellAt, (hm b hb).2]⟩
theorem PV.mono {hp hp' : Heap} {imm imm' : Nat → Prop} (hm : ∀ b, imm b → imm' b ∧ hp'[b]? = hp[b]?) {x : VV} {y : Value}
    (h : PV hp imm x y) : PV hp' imm' x y := h.mono' (cells_of hm)

def slot (l : Loc) (off : Nat) : Addr := ⟨l.b, l.o + off, none⟩
/-- An empty row. -/
def NilAt : Option NO → Prop
  | some (.row _ _ cells) => cells = []
  | some (.prow _ _ _ n _) => n = 0
  | _ => False

inductive Rep (hp : Heap) (imm : Nat → Prop) (β : Beta) (H : NH) : NV → Value → Prop where
  | p (x : VV) (y : Value) (h : PV hp imm x y) : Rep hp imm β H (.p x) y
  | ptr (id off : Nat) (l : Loc) (hid : id < H.length) (hl : β id = some l) : Rep hp imm β H (.ptr id off) (.pointer (some (slot l off)))
  | pe (id i j : Nat) (l : Loc) (T : TypeId) (rw : Bool) (sz n : Nat) (get : Nat → List VV) (ho : H[id]? = some (.prow T rw sz n get)) (hi : i < n)
      (hl : β id = some l) : Rep hp imm β H (.pe id i j) (.pointer (some (slot l (i * sz + j))))
  | full0 (id : Nat) (a : Option Addr) (hid : NilAt H[id]?) (hl : β id = none) : Rep hp imm β H (.full id) (.slice a 0 0)
  | fullP (id : Nat) (l : Loc) (T : TypeId) (rw : Bool) (sz n : Nat) (get : Nat → List VV) (c : Nat) (ho : H[id]? = some (.prow T rw sz n get)) (hc : n ≤ c) (hk : c ≤ l.k)
      (hl : β id = some l) : Rep hp imm β H (.full id) (.slice (some (slot l 0)) n c)
  | fullR (id : Nat) (l : Loc) (T : TypeId) (sz : Nat) (cells : List NV) (c : Nat) (ho : H[id]? = some (.row T sz cells)) (hc : cells.length / sz ≤ c) (hk : c ≤ l.k)
      (hl : β id = some l) : Rep hp imm β H (.full id) (.slice (some (slot l 0)) (cells.length / sz) c)
  | partP (id off len : Nat) (exact : Bool) (l : Loc) (T : TypeId) (rw : Bool) (sz n : Nat) (get : Nat → List VV) (c : Nat) (ho : H[id]? = some (.prow T rw sz n get))
      (hn : off + len ≤ n) (hc : len ≤ c) (he : exact = true → c = len) (hl : β id = some l) :
      Rep hp imm β H (.part id off len exact) (.slice (some (slot l (off * sz))) len c)
  | partR (id off len : Nat) (exact : Bool) (l : Loc) (T : TypeId) (sz : Nat) (cells : List NV) (c : Nat) (ho : H[id]? = some (.row T sz cells))
      (hn : off + len ≤ cells.length / sz) (hc : len ≤ c) (he : exact = true → c = len) (hl : β id = some l) :
      Rep hp imm β H (.part id off len exact) (.slice (some (slot l (off * sz))) len c)
  | part0 (id off : Nat) (exact : Bool) (a : Option Addr) (hid : id < H.length) : Rep hp imm β H (.part id off 0 exact) (.slice a 0 0)
  | xsl (sz n : Nat) (get : Nat → List VV) (a : Option Addr) (h : PV hp imm (.sl sz n get) (.slice a n n)) : Rep hp imm β H (.xsl sz n get) (.slice a n n)
  | vp (cells : List VV) (b o : Nat) (hi : imm b) (h : ∀ (j : Nat) (x : VV), cells[j]? = some x → ∃ y, cellAt hp b (o + j) = some y ∧ y.oneCell' = true ∧ PV hp imm x y) :
      Rep hp imm β H (.vp cells) (.pointer (some ⟨b, o, none⟩))
  | map (id : Nat) (l : Loc) (hid : id < H.length) (hl : β id = some l) : Rep hp imm β H (.map id) (.map (some l.b))
  | fn (f : Fn) (xs xs' : List NV) (ys ys' : Array Value) (hl : ys.size = xs.length) (hl' : ys'.size = xs'.length)
      (h : ∀ (i : Nat) (x : NV) (y : Value), xs[i]? = some x → ys[i]? = some y → Rep hp imm β H x y) (h' : ∀ (i : Nat) (x : NV) (y : Value), xs'[i]? = some x → ys'[i]? = some y → Rep hp imm β H x y) :
      Rep hp imm β H (.fn f xs xs') (.func f ys ys')
  | agg (xs : List NV) (ys : Array Value) (hl : ys.size = xs.length) (h : ∀ (i : Nat) (x : NV) (y : Value), xs[i]? = some x → ys[i]? = some y → Rep hp imm β H x y) :
      Rep hp imm β H (.agg xs) (.agg ys)
  | tup (xs : List NV) (ys : Array Value) (hl : ys.size = xs.length) (h : ∀ (i : Nat) (x : NV) (y : Value), xs[i]? = some x → ys[i]? = some y → Rep hp imm β H x y) :
      Rep hp imm β H (.tup xs) (.tuple ys)
  | yld (id : Nat) (l : Loc) (hid : id < H.length) (hl : β id = some l) : Rep hp imm β H (.yld id) (.func (.yield l.b) #[] #[])
  | junk (y : Value) : Rep hp imm β H .junk y

/-- Two rows, one by one. -/
def RepL (hp : Heap) (imm : Nat → Prop) (β : Beta) (H : NH) (xs : List NV) (ys : List Value) : Prop :=
  ys.length = xs.length ∧ ∀ (i : Nat) (x : NV) (y : Value), xs[i]? = some x → ys[i]? = some y → Rep hp imm β H x y

def Unfrozen (c : Array Value) (fr : Nat × Nat) : Prop := ∀ k, k < c.size → ¬ (fr.1 ≤ k ∧ k < fr.2)

/-- The object lies at l. -/
def ObjAt (hp : Heap) (imm : Nat → Prop) (β : Beta) (H : NH) (l : Loc) : NO → Prop
  | .row T sz cells => ∃ c fr, hp[l.b]? = some (.cells c T fr) ∧ Unfrozen c fr ∧ (cells.length ≤ l.k * sz ∧ l.o + l.k * sz ≤ c.size) ∧ 0 < sz ∧ sz ∣ cells.length ∧
      ∀ (k : Nat) (x : NV) (y : Value), cells[k]? = some x → c[l.o + k]? = some y → y.oneCell' = true ∧ Rep hp imm β H x y
  | .prow T rw sz n get => ∃ c fr, hp[l.b]? = some (.cells c T fr) ∧ (rw = true → Unfrozen c fr) ∧ (n ≤ l.k ∧ l.o + l.k * sz ≤ c.size) ∧ 0 < sz ∧
      ∀ (i : Nat), i < n → (get i).length = sz ∧ ∀ (j : Nat) (x : VV) (y : Value), (get i)[j]? = some x → c[l.o + (i * sz + j)]? = some y → y.oneCell' = true ∧ PV hp imm x y
  | .map es => ∃ me clock, hp[l.b]? = some (.map me clock) ∧ me.size = es.length ∧
      (∀ (i : Nat) (k : Value) (x : VV) (e : MapEntry), es[i]? = some (k, x) → me[i]? = some e → e.key = k ∧ PV hp imm x e.val) ∧
      (∀ (i : Nat) (e : MapEntry), me[i]? = some e → e.born < clock) ∧ (∀ (i j : Nat) (e e' : MapEntry), me[i]? = some e → me[j]? = some e' → e.born = e'.born → i = j)
  | .loop t ps assign body st pend => ∃ fn tmps d, hp[l.b]? = some (.loop ⟨st, pend, fn, tmps, ps, assign, body, d⟩) ∧ tmps.size = t.length ∧
      ∀ (k : Nat) (x : NV) (y : Value), t[k]? = some x → tmps[k]? = some y → Rep hp imm β H x y
  | .dead => True
/-- The object lies nowhere: an empty row. -/
def ObjNil : NO → Prop
  | .row T sz cells => cells = [] ∧ 0 < sz
  | .prow T rw sz n get => n = 0 ∧ 0 < sz
  | .map es => False
  | .loop .. => False
  | .dead => True
def ObjRep (hp : Heap) (imm : Nat → Prop) (β : Beta) (H : NH) (id : Nat) (o : NO) : Prop :=
  match β id with
  | some l => ObjAt hp imm β H l o
  | none => ObjNil o

structure St (hp : Heap) (β : Beta) (H : NH) : Prop where
  obj : ∀ id o, H[id]? = some o → ObjRep hp (Imm hp β H) β H id o
  apart : ∀ id id' o o', H[id]? = some o → H[id']? = some o' → id ≠ id' → o.owned = true → o'.alive = true → ∀ l l', β id = some l → β id' = some l' → l.b ≠ l'.b

/-- From one state to a later one. -/
structure Ext (hp : Heap) (β : Beta) (H : NH) (hp' : Heap) (β' : Beta) (H' : NH) : Prop where
  imm : ∀ b, Imm hp β H b → Imm hp' β' H' b ∧ hp'[b]? = hp[b]?
  size : hp.size ≤ hp'.size

theorem Ext.refl (hp : Heap) (β : Beta) (H : NH) : Ext hp β H hp β H := ⟨fun _ h => ⟨h, rfl⟩, Nat.le_refl _⟩
theorem Ext.trans {hp hp' hp'' : Heap} {β β' β'' : Beta} {H H' H'' : NH} (h : Ext hp β H hp' β' H') (h' : Ext hp' β' H' hp'' β'' H'') : Ext hp β H hp'' β'' H'' :=
  ⟨fun b hb => ⟨(h'.imm b (h.imm b hb).1).1, ((h'.imm b (h.imm b hb).1).2).trans (h.imm b hb).2⟩, Nat.le_trans h.size h'.size⟩
end Go.Proofs.Eng
