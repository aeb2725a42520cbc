/- The engine, part 5: operations that look at no object. -/
import Derived.Test.YthcmmpoifgoniaaE4
import Derived.ChangeKeysEq
import Derived.WalkLawsBesides
set_option linter.unusedVariables false
set_option linter.unusedSimpArgs false
namespace Go.Proofs.Eng

/-! Strings -/
def subStr (s : ByteArray) (l h : Nat) : ByteArray := ⟨((s.data.toList.drop l).take (h - l)).toArray⟩
def catStr (x y : ByteArray) : ByteArray := ⟨(x.data.toList ++ y.data.toList).toArray⟩
def bAt (s : ByteArray) (i : Nat) : UInt8 := s.data.toList.getD i 0
theorem ba_ext {x y : ByteArray} (h : x.data.toList = y.data.toList) : x = y := by
  cases x; cases y; congr 1; exact Array.ext' h
theorem subStr_eq (s : ByteArray) (l h : Nat) : s.extract l h = subStr s l h := by
  apply ba_ext
  simp [subStr, ByteArray.data_extract, Array.toList_extract, List.extract_eq_take_drop]
theorem catStr_eq (x y : ByteArray) : x ++ y = catStr x y := by
  apply ba_ext
  simp [catStr]

/-! What an operation is given -/
def ofValue : Value → NV
  | .agg cs => .agg (cs.toList.map fun c => .p (.v c))
  | v => .p (.v v)
/-- Temporaries, by the recursors themselves: the kernel's runs are shorter so. -/
noncomputable def getT (t : List NV) : Nat → NV :=
  List.rec (motive := fun _ => Nat → NV) (fun _ => .junk) (fun x _ ih n => Nat.rec (motive := fun _ => NV) x (fun m _ => ih m) n) t
noncomputable def setT (t : List NV) : Nat → NV → List NV :=
  List.rec (motive := fun _ => Nat → NV → List NV) (fun _ _ => []) (fun x xs ih n v => Nat.rec (motive := fun _ => List NV) (v :: xs) (fun m _ => x :: ih m v) n) t
theorem getT_eq (t : List NV) (i : Nat) : getT t i = t.getD i .junk := by
  induction t generalizing i with
  | nil => rfl
  | cons x t ih => cases i with
    | zero => rfl
    | succ i => exact ih i
theorem setT_eq (t : List NV) (i : Nat) (v : NV) : setT t i v = t.set i v := by
  induction t generalizing i with
  | nil => rfl
  | cons x t ih => cases i with
    | zero => rfl
    | succ i => exact congrArg (x :: ·) (ih i)
noncomputable def evalN (G : Nat → NV) (t : List NV) : Operand → NV
  | .tmp i => getT t i
  | .const v => ofValue v
  | .global g => G g
  | .func f => .fn (.func f) [] []

/-- The temporaries read as. -/
structure RepT (hp : Heap) (imm : Nat → Prop) (β : Beta) (H : NH) (t : List NV) (tmps : Array Value) : Prop where
  size : tmps.size = t.length
  at' : ∀ (i : Nat) (x : NV) (y : Value), t[i]? = some x → tmps[i]? = some y → Rep hp imm β H x y

section
variable {hp : Heap} {imm : Nat → Prop} {β : Beta} {H : NH}
theorem Rep.ofValue (v : Value) : Rep hp imm β H (ofValue v) v := by
  cases v with
  | agg cs =>
    refine .agg _ cs (by simp) fun i x y hx hy => ?_
    simp only [List.getElem?_map, Option.map_eq_some_iff] at hx
    obtain ⟨c, hc, rfl⟩ := hx
    rw [Array.getElem?_toList, hy] at hc
    cases hc
    exact .p _ _ (.v _)
  | _ => exact .p _ _ (.v _)
/-- What the package variables' addresses read as. -/
def RepG (hp : Heap) (imm : Nat → Prop) (β : Beta) (H : NH) (G : Nat → NV) : Prop := ∀ g, Rep hp imm β H (G g) (.pointer (some ⟨g, 0, none⟩))
theorem RepT.eval {G : Nat → NV} {t : List NV} {tmps : Array Value} {ds : List Deferred} (h : RepT hp imm β H t tmps) (hG : RepG hp imm β H G) (x : Operand) : Rep hp imm β H (evalN G t x) ((⟨tmps, ds⟩ : Act).eval x) := by
  cases x with
  | tmp i =>
    simp only [evalN, Act.eval, getT_eq]
    rw [List.getD_eq_getElem?_getD]
    cases ht : t[i]? with
    | none => exact .junk _
    | some x =>
      have hi := (List.getElem?_eq_some_iff.1 ht).1
      have hi' : i < tmps.size := by rw [h.size]; exact hi
      have := h.at' i x tmps[i] ht (Array.getElem?_eq_getElem hi')
      simpa [Array.getD, hi'] using this
  | const v => exact Rep.ofValue v
  | global g => exact hG g
  | func f => exact .fn _ [] [] #[] #[] rfl rfl (fun i x y hx => by simp at hx) (fun i x y hx => by simp at hx)
theorem RepT.put {t : List NV} {tmps : Array Value} (h : RepT hp imm β H t tmps) (d : Nat) {x : NV} {y : Value} (hxy : Rep hp imm β H x y) :
    RepT hp imm β H (t.set d x) (tmps.setIfInBounds d y) := by
  refine ⟨by simp [h.size], fun i a b ha hb => ?_⟩
  by_cases hid : d = i
  · subst hid
    have hlt : d < t.length := by
      rcases Nat.lt_or_ge d t.length with hlt | hge
      · exact hlt
      · rw [List.getElem?_eq_none (by simpa using hge)] at ha; cases ha
    rw [List.getElem?_set_self hlt] at ha
    rw [Array.getElem?_setIfInBounds_self_of_lt (by rw [h.size]; exact hlt)] at hb
    cases ha; cases hb; exact hxy
  · rw [List.getElem?_set_ne hid] at ha
    rw [Array.getElem?_setIfInBounds_ne hid] at hb
    exact h.at' i a b ha hb
theorem RepT.map {hp' : Heap} {imm' : Nat → Prop} {β' : Beta} {H' : NH} {f : NV → NV} {t : List NV} {tmps : Array Value} (h : RepT hp imm β H t tmps)
    (hf : ∀ x y, Rep hp imm β H x y → Rep hp' imm' β' H' (f x) y) : RepT hp' imm' β' H' (t.map f) tmps := by
  refine ⟨by simp [h.size], fun i a b ha hb => ?_⟩
  rw [List.getElem?_map, Option.map_eq_some_iff] at ha
  obtain ⟨x, hx, rfl⟩ := ha
  exact hf x b (h.at' i x b hx hb)
theorem Rep.v_inv {c y : Value} (h : Rep hp imm β H (.p (.v c)) y) : y = c := by
  cases h with | p _ _ h => cases h; rfl
end

/-! Whole numbers, strings, bools -/
def intBin (op : BinOp) (k : IntKind) (a b : Int) : Option Value :=
  match op with
  | .add => some (.int k (k.wrap (a + b)))
  | .sub => some (.int k (k.wrap (a - b)))
  | .mul => some (.int k (k.wrap (a * b)))
  | .quo => if b = 0 then none else some (.int k (k.wrap (a.tdiv b)))
  | .rem => if b = 0 then none else some (.int k (a.tmod b))
  | .and => some (.int k (k.wrap (BitVec.ofInt k.bits a &&& BitVec.ofInt k.bits b).toNat))
  | .or => some (.int k (k.wrap (BitVec.ofInt k.bits a ||| BitVec.ofInt k.bits b).toNat))
  | .xor => some (.int k (k.wrap (BitVec.ofInt k.bits a ^^^ BitVec.ofInt k.bits b).toNat))
  | .andNot => some (.int k (k.wrap (BitVec.ofInt k.bits a &&& ~~~BitVec.ofInt k.bits b).toNat))
  | .eql => some (.bool (a == b))
  | .neq => some (.bool (a != b))
  | .lss => some (.bool (decide (a < b)))
  | .leq => some (.bool (decide (a ≤ b)))
  | .gtr => some (.bool (decide (a > b)))
  | .geq => some (.bool (decide (a ≥ b)))
  | _ => none
def shBin (op : BinOp) (k : IntKind) (a b : Int) : Option Value :=
  match op with
  | .shl => if b < 0 then none else some (.int k (k.wrap (a * 2 ^ (min b.toNat k.bits))))
  | .shr => if b < 0 then none else some (.int k (a.fdiv (2 ^ (min b.toNat k.bits))))
  | _ => none
def strBin (op : BinOp) (x y : ByteArray) : Option Value :=
  match op with
  | .add => if x.size + y.size ≤ 9223372036854775807 then some (.string (catStr x y)) else none
  | .eql => some (.bool (x.data.toList == y.data.toList))
  | .neq => some (.bool !(x.data.toList == y.data.toList))
  | .lss => some (.bool (Op.bytesLess x.data.toList y.data.toList))
  | .leq => some (.bool (Op.bytesLess x.data.toList y.data.toList || x.data.toList == y.data.toList))
  | .gtr => some (.bool !(Op.bytesLess x.data.toList y.data.toList || x.data.toList == y.data.toList))
  | .geq => some (.bool !(Op.bytesLess x.data.toList y.data.toList))
  | _ => none
theorem intBin_run {P : Program} {W : World} {T : TypeId} {op : BinOp} {k : IntKind} {a b : Int} {v : Value} (h : intBin op k a b = some v) :
    (binOp op T (.int k a) (.int k b)).run P W = .ok v W := by
  cases op <;> simp only [intBin] at h <;> first
    | (cases h; done)
    | (cases h; simp [binOp, Op.intArith, Op.intBits, Op.intCmp]; done)
    | (split at h
       · cases h
       · cases h; simp [binOp, Op.intDiv, *])
theorem shBin_run {P : Program} {W : World} {T : TypeId} {op : BinOp} {k k' : IntKind} {a b : Int} {v : Value} (h : shBin op k a b = some v) :
    (binOp op T (.int k a) (.int k' b)).run P W = .ok v W := by
  cases op <;> simp only [shBin] at h <;> first
    | (cases h; done)
    | (split at h
       · cases h
       · cases h; simp [binOp, Op.shift, *])
theorem strBin_run {P : Program} {W : World} {T : TypeId} {op : BinOp} {x y : ByteArray} {v : Value} (h : strBin op x y = some v) :
    (binOp op T (.string x) (.string y)).run P W = .ok v W := by
  cases op <;> simp only [strBin] at h <;> first
    | (cases h; done)
    | (cases h; simp [binOp, Op.stringOp, ByteArray.toList_eq]; done)
    | (split at h
       · rename_i hle
         cases h
         simp only [binOp]
         rw [run_string_add_sum _ _ _ hle, catStr_eq]
       · cases h)
def unN (op : UnOp) (x : Value) : Option Value :=
  match op, x with
  | .neg, .int k n => some (.int k (k.wrap (0 - n)))
  | .xor, .int k n => some (.int k (k.wrap (BitVec.ofInt k.bits (if k.signed then -1 else k.max) ^^^ BitVec.ofInt k.bits n).toNat))
  | .not, .bool b => some (.bool !b)
  | _, _ => none
theorem unN_run {P : Program} {W : World} {op : UnOp} {x v : Value} (h : unN op x = some v) : (Op.unary op x).run P W = .ok v W := by
  unfold unN at h
  split at h <;> cases h
  · simp [Op.unary, Op.intArith]
  · simp [Op.unary, Op.intBits]
  · simp [Op.unary]
end Go.Proofs.Eng
