/- The engine, part 25: an operation within a region. -/
import Derived.Test.YthcmmpoifgoniaaE24
set_option linter.unusedVariables false
set_option linter.unusedSimpArgs false
namespace Go.Proofs.Eng

/-- What is called: a function; a round of a loop. -/
inductive Tgt where
  | fn (f : FuncId)
  | yld (id : Nat)
/-- What a call comes to: the value (thrown, where p is true), the objects, those that are no more, those that were touched. -/
structure COut where
  p : Bool
  v : NV
  H : NH
  A : List Nat
  T : List Nat
/-- Who answers calls. -/
abbrev Caller := Tgt → List NV → NH → Option COut

def maskL (l : List Nat) : Nat → Bool := fun i => l.contains i
def cleanT (A : List Nat) (t : List NV) : List NV :=
  match A with
  | [] => t
  | a :: A => t.map (cleanV (maskL (a :: A)))
noncomputable def putN (t : List NV) (d : Option Tmp) (v : NV) : List NV :=
  match d with
  | some d => setT t d v
  | none => t
theorem putN_some (t : List NV) (d : Tmp) (v : NV) : putN t (some d) v = t.set d v := setT_eq t d v
def optL : Option Nat → List Nat
  | none => []
  | some i => [i]
def undefN : NV := .p (.v undef)

/-- The objects that a reading operation looks at. -/
def readIds (ev : Operand → NV) (op : Op) : List Nat :=
  match op with
  | .load _ x => refV (ev x)
  | .indexAddr _ x _ => refV (ev x)
  | .slice _ x _ _ _ => refV (ev x)
  | .convert _ _ x => refV (ev x)
  | .lookup _ x _ _ => refV (ev x)
  | .binOp _ _ x y _ => refV (ev x) ++ refV (ev y)
  | .call c => refL (c.args.toList.map ev)
  | _ => []

mutual
/-- Is something in it no value any more? -/
def hasJunk : NV → Bool
  | .junk => true
  | .fn _ a b => hasJunkL a || hasJunkL b
  | .agg xs => hasJunkL xs
  | .tup xs => hasJunkL xs
  | _ => false
def hasJunkL : List NV → Bool
  | [] => false
  | x :: xs => hasJunk x || hasJunkL xs
end
/-- What an operation comes to; V: of one that looks at no object, all objects that its operands and its value refer to. -/
structure Out where
  v : NV
  H : NH
  A : List Nat
  T : List Nat
  R : List Nat
  eff : Bool
  V : Option (List Nat)
/-- What an operation that looks at no object refers to. -/
def refsOf (ev : Operand → NV) (op : Op) (r : NV) : Option (List Nat) :=
  if hasJunkL (op.operands.toList.map ev) then none else some (refL (op.operands.toList.map ev) ++ refV r)

def callArgs (ev : Operand → NV) (op : Op) : Option (Tgt × List NV) :=
  match op with
  | .call c => match c.callee with
    | .value f => match ev f with
      | .fn (.func g) first cap => some (.fn g, first ++ c.args.toList.map ev ++ cap)
      | .yld id => some (.yld id, c.args.toList.map ev)
      | _ => none
    | _ => none
  | _ => none
def opN (call : Caller) (P : Program) (H : NH) (ev : Operand → NV) (op : Op) : Option Out :=
  match pureN P ev op with
  | some r => some ⟨r, H, [], [], [], false, refsOf ev op r⟩
  | none => match readN P H ev op with
    | some r => some ⟨r, H, [], [], readIds ev op, false, none⟩
    | none => match effV P H ev op with
      | some (r, H', A, T) => some ⟨r, H', optL A, T, [], true, none⟩
      | none => match effU P H ev op with
        | some (H', T) => some ⟨undefN, H', [], T, [], true, none⟩
        | none => match callArgs ev op with
          | some (f, xs) => match call f xs H with
            | some o => if o.p then none else some ⟨o.v, o.H, o.A, o.T, [], true, none⟩
            | none => none
          | none => none
/-- An operation that throws: what is thrown, the objects, those that are no more, those that were touched. -/
def opP (call : Caller) (H : NH) (ev : Operand → NV) (op : Op) : Option COut :=
  match callArgs ev op with
  | some (f, xs) => match call f xs H with
    | some o => if o.p then some o else none
    | none => none
  | none => match op with
    | .panic x => match ev x with
      | .p (.iface t v) => some ⟨true, .p (.iface t v), H, [], []⟩
      | _ => none
    | _ => none

/-- A frame: its temporaries, the objects, those that are no more since it began, those that were touched. -/
structure FS where
  t : List NV
  H : NH
  A : List Nat
  T : List Nat
/-- What an operation did; N: objects from here on are new. -/
structure En where
  eff : Bool
  A : List Nat
  T : List Nat
  R : List Nat
  N : Nat
  V : Option (List Nat)

def unionT (new old : List Nat) : List Nat :=
  match new with
  | [] => old
  | i :: new => unionT new (if old.contains i then old else i :: old)
def wantedN (ops : Array Oper) (t : List NV) (o : Oper) : Option Bool :=
  match o.guard with
  | none => some true
  | some (j, want) => match (ops[j]?).bind (·.dst) with
    | none => some false
    | some d => match t[d]? with
      | none => some false
      | some (.p (.v (.bool b))) => some (b == want)
      | some (.p (.v (.tuple _))) => some false
      | _ => none
noncomputable def coreO (call : Caller) (P : Program) (G : Nat → NV) (ops : Array Oper) (o : Oper) (t : List NV) (H : NH) : Option (NV × NH × En) :=
  match wantedN ops t o with
  | some true => match opN call P H (evalN G t) o.op with
    | some r => some (r.v, r.H, ⟨r.eff, r.A, r.T, r.R, if r.eff then H.length else 0, r.V⟩)
    | none => none
  | some false => some (undefN, H, ⟨false, [], [], [], 0, none⟩)
  | none => none
noncomputable def putF (o : Oper) (s : FS) (v : NV) (H : NH) (e : En) : FS := ⟨putN (cleanT e.A s.t) o.dst v, H, unionT e.A s.A, unionT e.T s.T⟩
noncomputable def stepO (call : Caller) (P : Program) (G : Nat → NV) (ops : Array Oper) (o : Oper) (s : FS) : Option (FS × En) :=
  match coreO call P G ops o s.t s.H with
  | some (v, H, e) => some (putF o s v H e, e)
  | none => none
noncomputable def stepP (call : Caller) (G : Nat → NV) (ops : Array Oper) (o : Oper) (s : FS) : Option (NV × FS) :=
  match wantedN ops s.t o with
  | some true => match opP call s.H (evalN G s.t) o.op with
    | some r => some (r.v, ⟨cleanT r.A s.t, r.H, unionT r.A s.A, unionT r.T s.T⟩)
    | none => none
  | _ => none

/-! The same operands, the same answer. -/
section
variable {call : Caller} {P : Program} {G : Nat → NV} {H : NH} {ev ev' : Operand → NV} {op : Op}
theorem map_congr' {xs : List Operand} (h : ∀ x ∈ xs, ev x = ev' x) : xs.map ev = xs.map ev' := List.map_congr_left h
theorem parts_congr {ps : Array (Nat × Operand)} (h : ∀ x ∈ ps.toList.map (·.2), ev x = ev' x) : (ps.toList.map fun q => (q.1, ev q.2)) = (ps.toList.map fun q => (q.1, ev' q.2)) :=
  List.map_congr_left fun q hq => by rw [h q.2 (List.mem_map.2 ⟨q, hq, rfl⟩)]
theorem parts_congr2 {ps : Array (Nat × Operand)} (h : ∀ x ∈ ps.toList.map (·.2), ev x = ev' x) : (ps.toList.map fun q => ev q.2) = (ps.toList.map fun q => ev' q.2) :=
  List.map_congr_left fun q hq => by rw [h q.2 (List.mem_map.2 ⟨q, hq, rfl⟩)]
theorem opt_congr {x : Option Operand} (h : ∀ y ∈ x.toList, ev y = ev' y) : x.map ev = x.map ev' := by
  cases x with
  | none => rfl
  | some y => simp only [Option.map_some, h y (by simp)]
theorem callOps {c : Call} (h : ∀ x ∈ (Op.call c).operands.toList, ev x = ev' x) : c.args.toList.map ev = c.args.toList.map ev' ∧ (∀ f, c.callee = .value f → ev f = ev' f) := by
  simp only [Op.operands, Call.operands, Array.toList_append, List.mem_append] at h
  exact ⟨map_congr' fun x hx => h x (.inr hx), fun f hf => h f (.inl (by simp [hf]))⟩
theorem pureN_congr (h : ∀ x ∈ op.operands.toList, ev x = ev' x) : pureN P ev op = pureN P ev' op := by
  cases op with
  | call c => obtain ⟨h1, h2⟩ := callOps h; simp only [pureN, h1]
  | build t ps => simp only [Op.operands] at h; simp only [pureN]; rw [parts_congr (by simpa using h)]
  | makeFunc f a b =>
    simp only [Op.operands, Array.toList_append, List.mem_append] at h
    simp only [pureN]; rw [map_congr' fun x hx => h x (.inl hx), map_congr' fun x hx => h x (.inr hx)]
  | slice T x lo hi mx =>
    simp only [Op.operands, Array.toList_append, List.mem_append] at h
    simp only [pureN]
    rw [opt_congr (x := lo) fun y hy => h y (.inl (.inl (.inr (by simpa using hy)))), opt_congr (x := hi) fun y hy => h y (.inl (.inr (by simpa using hy))), opt_congr (x := mx) fun y hy => h y (.inr (by simpa using hy)), h x (by simp)]
  | _ => simp only [Op.operands] at h; simp only [pureN] <;> simp_all
theorem readN_congr (h : ∀ x ∈ op.operands.toList, ev x = ev' x) : readN P H ev op = readN P H ev' op := by
  cases op with
  | call c =>
    obtain ⟨h1, h2⟩ := callOps h
    simp only [readN]
    split
    · cases ha : c.args.toList with
      | nil => rfl
      | cons x xs =>
        rw [ha] at h1
        simp only [List.map_cons, List.cons.injEq] at h1
        cases xs with
        | nil =>
          cases c.argTypes[0]? with
          | none => rfl
          | some T => show lenH P H T (ev x) = lenH P H T (ev' x); rw [h1.1]
        | cons y ys => rfl
    · cases ha : c.args.toList with
      | nil => rfl
      | cons x xs =>
        rw [ha] at h1
        simp only [List.map_cons, List.cons.injEq] at h1
        cases xs with
        | nil => show sliceDataN H (ev x) = sliceDataN H (ev' x); rw [h1.1]
        | cons y ys => rfl
    · rfl
  | slice T x lo hi mx =>
    simp only [Op.operands, Array.toList_append, List.mem_append] at h
    simp only [readN]
    rw [opt_congr (x := lo) fun y hy => h y (.inl (.inl (.inr (by simpa using hy)))), opt_congr (x := hi) fun y hy => h y (.inl (.inr (by simpa using hy))), opt_congr (x := mx) fun y hy => h y (.inr (by simpa using hy)), h x (by simp)]
  | _ => simp only [Op.operands] at h; simp only [readN] <;> simp_all
theorem readIds_congr (h : ∀ x ∈ op.operands.toList, ev x = ev' x) : readIds ev op = readIds ev' op := by
  cases op with
  | call c => obtain ⟨h1, h2⟩ := callOps h; simp only [readIds, h1]
  | slice T x lo hi mx =>
    simp only [Op.operands, Array.toList_append, List.mem_append] at h
    simp only [readIds]
    rw [h x (by simp)]
  | _ => simp only [Op.operands] at h; simp only [readIds] <;> simp_all
theorem effV_congr (h : ∀ x ∈ op.operands.toList, ev x = ev' x) : effV P H ev op = effV P H ev' op := by
  cases op with
  | call c =>
    obtain ⟨h1, h2⟩ := callOps h
    simp only [effV]
    split
    · rename_i d x hb ha
      rw [ha] at h1
      simp only [List.map_cons, List.cons.injEq] at h1
      simp only [h1.1, h1.2.1]
    · rename_i d x hb ha
      rw [ha] at h1
      simp only [List.map_cons, List.cons.injEq] at h1
      simp only [h1.1, h1.2.1]
    · rename_i d hb ha
      rw [ha] at h1
      simp only [List.map_cons, List.cons.injEq] at h1
      simp only [h1.1]
    · rename_i d x hb ha
      rw [ha] at h1
      simp only [List.map_cons, List.cons.injEq] at h1
      simp only [h1.1, h1.2.1]
    · rfl
  | buildSlice t n ps => simp only [Op.operands] at h; simp only [effV]; rw [parts_congr (by simpa using h), parts_congr2 (by simpa using h)]
  | makeMap t r => simp only [Op.operands] at h; simp only [effV]; rw [opt_congr (x := r) (by simpa using h)]
  | alloc t => rfl
  | _ => first | rfl | (simp only [Op.operands] at h; simp only [effV]; simp_all)
theorem effU_congr (h : ∀ x ∈ op.operands.toList, ev x = ev' x) : effU P H ev op = effU P H ev' op := by
  cases op <;> first | rfl | (simp only [Op.operands] at h; simp only [effU]; simp_all)
theorem callArgs_congr (h : ∀ x ∈ op.operands.toList, ev x = ev' x) : callArgs ev op = callArgs ev' op := by
  cases op with
  | call c =>
    obtain ⟨h1, h2⟩ := callOps h
    simp only [callArgs, h1]
    cases hc : c.callee with
    | value f => simp only [h2 f hc]
    | _ => rfl
  | _ => rfl
theorem refsOf_congr {r : NV} (h : ∀ x ∈ op.operands.toList, ev x = ev' x) : refsOf ev op r = refsOf ev' op r := by
  unfold refsOf
  rw [map_congr' h]
theorem opN_congr (h : ∀ x ∈ op.operands.toList, ev x = ev' x) : opN call P H ev op = opN call P H ev' op := by
  unfold opN
  simp only [pureN_congr h, readN_congr h, readIds_congr h, effV_congr h, effU_congr h, callArgs_congr h, refsOf_congr h]
end
end Go.Proofs.Eng
