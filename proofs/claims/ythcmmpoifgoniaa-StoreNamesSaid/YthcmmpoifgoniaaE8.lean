/- The engine, part 8: operations that look at no object, all of them. -/
import Derived.Test.YthcmmpoifgoniaaE7
set_option linter.unusedVariables false
set_option linter.unusedSimpArgs false
namespace Go.Proofs.Eng

abbrev vN (v : Value) : NV := .p (.v v)
abbrev bN (b : Bool) : NV := .p (.v (.bool b))
def isConst : Operand → Bool
  | .const _ => true
  | _ => false
/-- Neither a struct nor a nil interface. -/
def plainish : NV → Bool
  | .p (.v (.agg _)) => false
  | .p (.v .nilIface) => false
  | .p (.agg _) => false
  | .agg _ => false
  | .tup _ => false
  | .junk => false
  | _ => true
def guardOk (P : Program) (T : TypeId) (xo yo : Operand) (x y : NV) : Bool :=
  match x, y with
  | .agg _, .agg _ => !(P.eqGuardType P.depth T)
  | .p (.v .nilIface), .p (.v .nilIface) => isConst xo || isConst yo
  | x, y => plainish x || plainish y
def binN (P : Program) (op : BinOp) (T : TypeId) (xo yo : Operand) (x y : NV) : Option NV :=
  match x, y with
  | .p (.v (.int k a)), .p (.v (.int k' b)) =>
    match op with
    | .shl => (shBin .shl k a b).map vN
    | .shr => (shBin .shr k a b).map vN
    | op => if k = k' then (intBin op k a b).map vN else none
  | .p (.v (.string a)), .p (.v (.string b)) => (strBin op a b).map vN
  | x, y =>
    match op with
    | .eql => if guardOk P T xo yo x y then (eqN P 6 T x y).map bN else none
    | .neq => if guardOk P T xo yo x y then (eqN P 6 T x y).map fun r => bN (!r) else none
    | _ => none
def convN (P : Program) (src dst : TypeId) (x : NV) : Option NV :=
  match P.underlying src, P.underlying dst, x with
  | some _, some (.int k), .p (.v (.int _ n)) => some (vN (.int k (k.wrap n)))
  | some _, some .string, .p (.v (.string s)) => some (vN (.string s))
  | _, _, _ => none
def indexN (P : Program) (T : TypeId) (x ix : NV) : Option NV :=
  match P.underlying T, x, ix with
  | some .string, .p (.v (.string s)), .p (.v (.int _ i)) => if 0 ≤ i ∧ i < s.size then some (vN (.int .u8 (bAt s i.toNat).toNat)) else none
  | some (.array len e), .agg xs, .p (.v (.int _ i)) =>
    match tySz P e with
    | some s => if 0 ≤ i ∧ i < len then partN P e xs (i.toNat * s) else none
    | none => none
  | _, _, _ => none
def fieldOf (P : Program) (S : TypeId) (f : Nat) : Option Field :=
  match P.underlying S with
  | some (.struct fs) => fs[f]?
  | _ => none
def fieldN (P : Program) (S : TypeId) (x : NV) (f : Nat) : Option NV :=
  match fieldOf P S f, x with
  | some fd, .agg xs => partN P fd.type xs fd.offset
  | _, _ => none
def fieldAddrN (P : Program) (S : TypeId) (x : NV) (f : Nat) : Option NV :=
  match fieldOf P S f with
  | some fd =>
    match tySz P fd.type with
    | some 0 => none
    | some _ =>
      match x with
      | .ptr id off => some (.ptr id (off + fd.offset))
      | .pe id i j => some (.pe id i (j + fd.offset))
      | .vp cells => some (.vp (cells.drop fd.offset))
      | _ => none
    | none => none
  | none => none
def indexAddrN (P : Program) (T : TypeId) (x ix : NV) : Option NV :=
  match P.underlying T, x, ix with
  | some (.slice e), .p (.sl sz n get), .p (.v (.int _ i)) =>
    if tySz P e = some sz then if 0 ≤ i ∧ i < n then some (.vp (get i.toNat)) else none else none
  | some (.array len e), .ptr id off, .p (.v (.int _ i)) =>
    match tySz P e with
    | some s => if 0 ≤ i ∧ i < len then some (.ptr id (off + i.toNat * s)) else none
    | none => none
  | some (.array len e), .vp cells, .p (.v (.int _ i)) =>
    match tySz P e with
    | some s => if 0 ≤ i ∧ i < len then some (.vp (cells.drop (i.toNat * s))) else none
    | none => none
  | _, _, _ => none
def bnd (x : NV) (y : Nat) : Option Nat :=
  match x with
  | .p (.v (.int _ i)) => if 0 ≤ i ∧ i ≤ y then some i.toNat else none
  | _ => none
def bndO (x : Option NV) (y d : Nat) : Option Nat :=
  match x with
  | some x => bnd x y
  | none => some d
/-- The upper bound: of what is there, or of what is let. -/
def bndHi (hi mx : Option NV) (m n : Nat) : Option Nat :=
  match hi, mx with
  | none, some _ => none
  | none, none => some n
  | some x, _ => bnd x m
def sliceN (P : Program) (T : TypeId) (x : NV) (lo hi mx : Option NV) : Option NV :=
  match P.underlying T, x with
  | some .string, .p (.v (.string s)) =>
    if mx.isNone then
      match bndO hi s.size s.size with
      | some h => match bndO lo h 0 with
        | some l => some (vN (.string (subStr s l h)))
        | none => none
      | none => none
    else none
  | some (.slice e), .p (.v (.slice none 0 0)) =>
    match bndO mx 0 0, tySz P e with
    | some m, some _ => match bndHi hi mx m 0 with
      | some h => match bndO lo h 0 with
        | some l => some (vN (.slice none 0 0))
        | none => none
      | none => none
    | _, _ => none
  | some (.slice e), .p (.sl sz n get) =>
    if tySz P e = some sz then
      match bndO mx n n with
      | some m => match bndHi hi mx m n with
        | some h => match bndO lo h 0 with
          | some l => if mx.isSome && m == h then some (.xsl sz (h - l) fun i => get (l + i)) else some (.p (.sl sz (h - l) fun i => get (l + i)))
          | none => none
        | none => none
      | none => none
    else none
  | _, _ => none
def nilCheckN (x : NV) : Option NV :=
  match x with
  | .fn (.func f) a b => some (.fn (.func f) a b)
  | x => if isRef x then some x else none
def toVV : NV → Option VV
  | .p x => some x
  | .agg xs => (xs.mapM fun (x : NV) => match x with | NV.p v => some v | _ => none).map VV.agg
  | _ => none
def makeIfaceN (P : Program) (T : TypeId) (x : NV) : Option NV :=
  match P.underlying T, toVV x with
  | some (.interface _), _ => none
  | some _, some v => some (.p (.iface T v))
  | _, _ => none
/-- The rest behind the first 2^d bytes. -/
def dropP : Nat → List UInt8 → Option (List UInt8)
  | 0, [] => none
  | 0, _ :: t => some t
  | d + 1, l => match dropP d l with
    | some r => dropP d r
    | none => none
def countP : Nat → List UInt8 → Nat → Nat
  | 0, _, acc => acc
  | d + 1, l, acc => match dropP d l with
    | some r => countP d r (acc + 2 ^ d)
    | none => countP d l acc
/-- How long a string is: counted so that the kernel does not go deep. -/
def sizeK (s : ByteArray) : Nat :=
  match s.data.toList.drop 300 with
  | [] => s.size
  | _ :: _ => match dropP 17 s.data.toList with
    | some _ => s.size
    | none => countP 17 s.data.toList 0
theorem dropP_some : ∀ {d : Nat} {l r : List UInt8}, dropP d l = some r → l.length = 2 ^ d + r.length
  | 0, [], r, h => by cases h
  | 0, _ :: t, r, h => by cases h; simp; omega
  | d + 1, l, r, h => by
    simp only [dropP] at h
    split at h
    · rename_i q hq
      have h1 := dropP_some hq
      have h2 := dropP_some h
      rw [Nat.pow_succ]; omega
    · cases h
theorem dropP_none : ∀ {d : Nat} {l : List UInt8}, dropP d l = none → l.length < 2 ^ d
  | 0, [], h => by simp
  | 0, _ :: t, h => by cases h
  | d + 1, l, h => by
    simp only [dropP] at h
    rw [Nat.pow_succ]
    split at h
    · rename_i q hq
      have h1 := dropP_some hq
      have h2 := dropP_none h
      omega
    · rename_i hq
      have h1 := dropP_none hq
      omega
theorem countP_eq : ∀ {d : Nat} {l : List UInt8} {acc : Nat}, l.length < 2 ^ d → countP d l acc = acc + l.length
  | 0, l, acc, h => by simp at h; simp [countP, h]
  | d + 1, l, acc, h => by
    rw [Nat.pow_succ] at h
    simp only [countP]
    split
    · rename_i r hr
      have h1 := dropP_some hr
      rw [countP_eq (by omega)]; omega
    · rename_i hr
      exact countP_eq (dropP_none hr)
theorem sizeK_eq (s : ByteArray) : sizeK s = s.size := by
  unfold sizeK
  split
  · rfl
  · split
    · rfl
    · rename_i h
      rw [countP_eq (dropP_none h), Nat.zero_add, Array.length_toList]; rfl
def lenN (P : Program) (T : TypeId) (x : NV) : Option NV :=
  match P.underlying T, x with
  | some .string, .p (.v (.string s)) => some (vN (.int .i64 (sizeK s : Nat)))
  | some (.array n _), _ => some (vN (.int .i64 n))
  | some (.pointer a), _ => match P.underlying a with
    | some (.array n _) => some (vN (.int .i64 n))
    | _ => none
  | some (.slice _), .p (.sl _ n _) => some (vN (.int .i64 n))
  | some (.slice _), .p (.v (.slice none n _)) => some (vN (.int .i64 n))
  | some (.slice _), .part _ _ n _ => some (vN (.int .i64 n))
  | some (.map _ _), .p (.v (.map none)) => some (vN (.int .i64 0))
  | _, _ => none
def minN (x y : NV) : Option NV :=
  match x, y with
  | .p (.v (.int k a)), .p (.v (.int _ b)) => some (vN (.int k (if b < a then b else a)))
  | _, _ => none
def maxN (x y : NV) : Option NV :=
  match x, y with
  | .p (.v (.int k a)), .p (.v (.int _ b)) => some (vN (.int k (if b > a then b else a)))
  | _, _ => none

section
variable {hp : Heap} {imm : Nat → Prop} {β : Beta} {H : NH} {P : Program} {W : World}
theorem vRep (v : Value) : Rep hp imm β H (vN v) v := .p _ _ (.v _)

theorem plainish_inv {x : NV} {a : Value} (h : plainish x = true) (hx : Rep hp imm β H x a) : (∀ c, a ≠ .agg c) ∧ a ≠ .nilIface := by
  cases hx with
  | p x a ha =>
    cases ha with
    | v => cases a <;> simp_all [plainish]
    | agg => simp [plainish] at h
    | _ => simp
  | agg => simp [plainish] at h
  | tup => simp [plainish] at h
  | junk => simp [plainish] at h
  | _ => simp
theorem guard_plain {op : BinOp} {T : TypeId} {xo yo : Operand} {a b : Value} (h : ((∀ c, a ≠ .agg c) ∧ a ≠ .nilIface) ∨ ((∀ c, b ≠ .agg c) ∧ b ≠ .nilIface)) :
    (eqGuard op T xo yo a b).run P W = .ok () W := by
  cases a <;> cases b <;> first
    | (exfalso; rcases h with h | h <;> first | exact h.2 rfl | exact h.1 _ rfl)
    | (cases op <;> simp [eqGuard])
theorem guard_run {op : BinOp} {T : TypeId} {xo yo : Operand} {x y : NV} {a b : Value} (h : guardOk P T xo yo x y = true) (hx : Rep hp imm β H x a) (hy : Rep hp imm β H y b) :
    (eqGuard op T xo yo a b).run P W = .ok () W := by
  unfold guardOk at h
  split at h
  · cases hx with
    | agg xs as => cases hy with
      | agg ys bs => exact run_eqGuard_agg W op T xo yo as bs (by simpa using h)
  · obtain rfl := hx.v_inv
    obtain rfl := hy.v_inv
    cases xo <;> cases yo <;> simp_all [isConst] <;> cases op <;> simp [eqGuard]
  · simp only [Bool.or_eq_true] at h
    exact guard_plain (h.imp (fun h => plainish_inv h hx) (fun h => plainish_inv h hy))
end
end Go.Proofs.Eng
