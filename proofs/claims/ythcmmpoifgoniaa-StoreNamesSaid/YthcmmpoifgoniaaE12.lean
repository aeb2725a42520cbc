/- The engine, part 12: operations that look at objects. -/
import Derived.Test.YthcmmpoifgoniaaE11
import Derived.Laws.Cells
set_option linter.unusedVariables false
set_option linter.unusedSimpArgs false
namespace Go.Proofs.Eng

def ofVV : VV → NV
  | .agg cs => .agg (cs.map .p)
  | x => .p x
def takeVV (ag : Bool) (s : Nat) (cells : List VV) : Option NV :=
  if ag then if s ≤ cells.length then some (.agg ((cells.take s).map .p)) else none
  else match cells with
    | c :: _ => some (.p c)
    | [] => none
def loadN (P : Program) (H : NH) (T : TypeId) (x : NV) : Option NV :=
  match tyAgg P T, tySz P T with
  | some ag, some s =>
    match x with
    | .ptr id off =>
      match H[id]? with
      | some (.row _ _ cells) => if ag then if off + s ≤ cells.length then some (.agg ((cells.drop off).take s)) else none else cells[off]?
      | _ => none
    | .pe id i j =>
      match H[id]? with
      | some (.prow _ _ _ _ get) => takeVV ag s ((get i).drop j)
      | _ => none
    | .vp cells => takeVV ag s cells
    | _ => none
  | _, _ => none
def lenH (P : Program) (H : NH) (T : TypeId) (x : NV) : Option NV :=
  match P.underlying T, x with
  | some (.slice _), .full id =>
    match H[id]? with
    | some (.prow _ _ _ n _) => some (vN (.int .i64 n))
    | some (.row _ sz cells) => some (vN (.int .i64 (cells.length / sz : Nat)))
    | _ => none
  | some (.slice _), .xsl _ n _ => some (vN (.int .i64 n))
  | some (.map _ _), .map id =>
    match H[id]? with
    | some (.map es) => some (vN (.int .i64 es.length))
    | _ => none
  | _, _ => none
def indexAddrH (P : Program) (H : NH) (T : TypeId) (x ix : NV) : Option NV :=
  match P.underlying T, ix with
  | some (.slice e), .p (.v (.int _ i)) =>
    match x with
    | .full id =>
      match H[id]? with
      | some (.prow _ _ sz n _) => if tySz P e = some sz then if 0 ≤ i ∧ i < n then some (.pe id i.toNat 0) else none else none
      | some (.row _ sz cells) => if tySz P e = some sz then if 0 ≤ i ∧ i < (cells.length / sz : Nat) then some (.ptr id (i.toNat * sz)) else none else none
      | _ => none
    | .part id off len _ =>
      match H[id]? with
      | some (.prow _ _ sz _ _) => if tySz P e = some sz then if 0 ≤ i ∧ i < len then some (.pe id (off + i.toNat) 0) else none else none
      | some (.row _ sz _) => if tySz P e = some sz then if 0 ≤ i ∧ i < len then some (.ptr id ((off + i.toNat) * sz)) else none else none
      | _ => none
    | .xsl sz n get => if tySz P e = some sz then if 0 ≤ i ∧ i < n then some (.vp (get i.toNat)) else none else none
    | _ => none
  | _, _ => none
/-- How many elements an object has, of which size. -/
def rowN (o : Option NO) : Option (Nat × Nat) :=
  match o with
  | some (.prow _ _ sz n _) => some (sz, n)
  | some (.row _ sz cells) => some (sz, cells.length / sz)
  | _ => none
def sliceH (P : Program) (H : NH) (T : TypeId) (x : NV) (lo hi mx : Option NV) : Option NV :=
  match P.underlying T with
  | some (.slice e) =>
    match x with
    | .full id =>
      match rowN H[id]? with
      | some (sz, n) =>
        if tySz P e = some sz then
          if lo.isNone && hi.isNone && mx.isNone then some (.full id)
          else match bndO mx n n with
            | some m => match bndHi hi mx m n with
              | some h => match bndO lo h 0 with
                | some l => some (.part id l (h - l) (mx.isSome && m == h))
                | none => none
              | none => none
            | none => none
        else none
      | none => none
    | .part id off len exact =>
      match rowN H[id]? with
      | some (sz, n) =>
        if tySz P e = some sz then
          match bndO mx len len with
          | some m => match bndHi hi mx m len with
            | some h => match bndO lo h 0 with
              | some l => some (.part id (off + l) (h - l) ((mx.isSome && m == h) || (exact && hi.isNone && mx.isNone)))
              | none => none
            | none => none
          | none => none
        else none
      | none => none
    | _ => none
  | _ => none
def byteOf (x : List VV) : UInt8 :=
  match x with
  | [.v (.int .u8 c)] => UInt8.ofNat c.toNat
  | _ => 0
def isByte (x : List VV) : Bool :=
  match x with
  | [.v (.int .u8 _)] => true
  | _ => false
def strOf (n : Nat) (get : Nat → List VV) : ByteArray := ⟨((List.range n).map fun i => byteOf (get i)).toArray⟩
def allBytes (n : Nat) (get : Nat → List VV) : Bool := (List.range n).all fun i => isByte (get i)
/-- What a slice of what nobody writes to, or of an object, has. -/
def srcN (H : NH) (x : NV) : Option (Nat × Nat × (Nat → List VV)) :=
  match x with
  | .p (.sl sz n get) => some (sz, n, get)
  | .xsl sz n get => some (sz, n, get)
  | .full id =>
    match H[id]? with
    | some (.prow _ _ sz n get) => some (sz, n, get)
    | _ => none
  | .part id off len _ =>
    match H[id]? with
    | some (.prow _ _ sz _ get) => some (sz, len, fun i => get (off + i))
    | _ => none
  | _ => none
def bytesN (P : Program) (H : NH) (src dst : TypeId) (x : NV) : Option NV :=
  match P.underlying src, P.underlying dst with
  | some (.slice e), some .string =>
    match P.underlying e with
    | some (.int .u8) =>
      match x with
      | .p (.v (.slice none _ _)) => some (vN (.string ⟨#[]⟩))
      | x => match srcN H x with
        | some (1, n, get) => if allBytes n get then some (vN (.string (strOf n get))) else none
        | _ => none
    | _ => none
  | _, _ => none
def findN (kd : TypeDesc) (k : Value) : List (Value × VV) → Option (Option VV)
  | [] => some none
  | (q, v) :: es =>
    match Instr.sameNow kd k q with
    | some true => some (some v)
    | some false => findN kd k es
    | none => none
def simpleKey : TypeDesc → Bool
  | .int _ => true
  | .string => true
  | .bool => true
  | _ => false
def lookupN (P : Program) (H : NH) (T : TypeId) (x k : NV) (ok : Bool) : Option NV :=
  match P.underlying T, k with
  | some (.map K E), .p (.v kv) =>
    match P.underlying K, (P.info? E).bind (·.zero) with
    | some kd, some z =>
      if simpleKey kd then
      match (match x with
        | .p (.v (.map none)) => some none
        | .map id => match H[id]? with
          | some (.map es) => findN kd kv es
          | _ => none
        | _ => none) with
      | some (some v) => some (if ok then .tup [ofVV v, bN true] else ofVV v)
      | some none => some (if ok then .tup [ofValue z, bN false] else ofValue z)
      | none => none
      else none
    | _, _ => none
  | _, _ => none
/-- Where a slice's first element lies. -/
def sliceDataN (H : NH) (x : NV) : Option NV :=
  match x with
  | .p (.v (.slice none _ _)) => some (vN (.pointer none))
  | .full id => match H[id]? with
    | some (.prow _ _ sz n _) => if 0 < n then some (.pe id 0 0) else none
    | _ => none
  | _ => none
/-- A slice that is not nil; one that is. -/
def nonNilN (H : NH) (x : NV) : Bool :=
  match x with
  | .full id => match rowN H[id]? with
    | some (_, n) => decide (0 < n)
    | none => false
  | .part _ _ len _ => decide (0 < len)
  | .xsl _ n _ => decide (0 < n)
  | .p (.sl _ n _) => decide (0 < n)
  | _ => false
def isNilN (x : NV) : Bool :=
  match x with
  | .p (.v (.slice none 0 0)) => true
  | _ => false
def cmpNilN (P : Program) (H : NH) (op : BinOp) (T : TypeId) (x y : NV) : Option NV :=
  match P.underlying T with
  | some (.slice _) =>
    if (nonNilN H x && isNilN y) || (isNilN x && nonNilN H y) then
      match op with
      | .eql => some (bN false)
      | .neq => some (bN true)
      | _ => none
    else none
  | _ => none
def readN (P : Program) (H : NH) (ev : Operand → NV) (op : Op) : Option NV :=
  match op with
  | .load T x => loadN P H T (ev x)
  | .indexAddr T x ix => indexAddrH P H T (ev x) (ev ix)
  | .slice T x lo hi mx => sliceH P H T (ev x) (lo.map ev) (hi.map ev) (mx.map ev)
  | .convert s d x => bytesN P H s d (ev x)
  | .lookup T x k ok => lookupN P H T (ev x) (ev k) ok
  | .binOp op T x y _ => cmpNilN P H op T (ev x) (ev y)
  | .call c => match c.callee with
    | .builtin .len => match c.args.toList, c.argTypes[0]? with
      | [x], some T => lenH P H T (ev x)
      | _, _ => none
    | .builtin .unsafeSliceData => match c.args.toList with
      | [x] => sliceDataN H (ev x)
      | _ => none
    | _ => none
  | _ => none

section
variable {β : Beta} {H : NH} {P : Program} {W : World}

theorem loadCells_run {l : Addr} {n : Nat} (f : Nat → Value) (h : ∀ j, j < n → W.cell? (l.add j) = some (f j)) : (loadCells l n).run P W = .ok ((List.range n).map f).toArray W := run_loadCells W l n f h
theorem loadVar_one {T : TypeId} {A : Addr} {v : Value} (ha : tyAgg P T = some false) (h : W.cell? A = some v) : (Instr.loadAt T (.pointer (some A))).run P W = .ok v W := by
  simp only [Instr.loadAt, Instr.sureAddr, loadVar, Sem.run_bind, Sem.run_pure, Result.andThen_ok, tyAgg_run ha, Bool.false_eq_true, if_false, run_load, h]
theorem loadVar_agg {T : TypeId} {A : Addr} {s : Nat} (f : Nat → Value) (ha : tyAgg P T = some true) (hs : tySz P T = some s) (h : ∀ j, j < s → W.cell? (A.add j) = some (f j)) :
    (Instr.loadAt T (.pointer (some A))).run P W = .ok (.agg ((List.range s).map f).toArray) W := by
  simp only [Instr.loadAt, Instr.sureAddr, loadVar, Sem.run_bind, Sem.run_pure, Result.andThen_ok, tyAgg_run ha, if_true, tySz_run hs, loadCells_run f h]

/-- Cells from an address on, that read as values. -/
theorem take_run {T : TypeId} {ag : Bool} {s : Nat} {A : Addr} {cells : List VV} {r : NV} (ha : tyAgg P T = some ag) (hs : tySz P T = some s)
    (hc : ∀ (j : Nat) (x : VV), cells[j]? = some x → ∃ y, W.cell? (A.add j) = some y ∧ PV W.heap (Imm W.heap β H) x y) (h : takeVV ag s cells = some r) :
    ∃ v, (Instr.loadAt T (.pointer (some A))).run P W = .ok v W ∧ (Rep W.heap (Imm W.heap β H) β H) r v := by
  unfold takeVV at h
  cases ag with
  | true =>
    simp only [if_true] at h
    split at h
    · rename_i hle
      cases h
      have hex : ∀ j, j < s → ∃ y, W.cell? (A.add j) = some y ∧ ∃ x, cells[j]? = some x ∧ PV W.heap (Imm W.heap β H) x y := fun j hj => by
        obtain ⟨y, h1, h2⟩ := hc j cells[j] (List.getElem?_eq_getElem (by omega))
        exact ⟨y, h1, _, List.getElem?_eq_getElem (by omega), h2⟩
      refine ⟨_, loadVar_agg (fun j => (W.cell? (A.add j)).getD undef) ha hs (fun j hj => ?_), .agg _ _ (by simp; omega) fun i x y hx hy => ?_⟩
      · obtain ⟨y, h1, _⟩ := hex j hj
        rw [h1]; rfl
      · rw [List.getElem?_map, Option.map_eq_some_iff] at hx
        obtain ⟨q, hq, rfl⟩ := hx
        rw [List.getElem?_take] at hq
        split at hq
        · rename_i hi
          obtain ⟨z, h1, x', h2, h3⟩ := hex i hi
          rw [h2] at hq; cases hq
          have hy' : y = z := by
            simp only [List.getElem?_toArray, List.getElem?_map, List.getElem?_range hi, Option.map_some, h1, Option.getD_some] at hy
            exact (Option.some.inj hy).symm
          subst hy'
          exact .p _ _ h3
        · cases hq
    · cases h
  | false =>
    simp only [Bool.false_eq_true, if_false] at h
    split at h
    · rename_i c cs
      cases h
      obtain ⟨y, h1, h2⟩ := hc 0 c rfl
      have h0 : A.add 0 = A := by simp [Addr.add]
      rw [h0] at h1
      exact ⟨y, loadVar_one ha h1, .p _ _ h2⟩
    · cases h
theorem pe_cells {id i j : Nat} {T' : TypeId} {rw' : Bool} {sz n : Nat} {get : Nat → List VV} {l : Loc} (hst : St W.heap β H) (ho : H[id]? = some (.prow T' rw' sz n get)) (hi : i < n) (hl : β id = some l) :
    ∀ (k : Nat) (x : VV), ((get i).drop j)[k]? = some x → ∃ y, W.cell? ((slot l (i * sz + j)).add k) = some y ∧ y.oneCell' = true ∧ PV W.heap (Imm W.heap β H) x y := by
  intro k x hx
  rw [List.getElem?_drop] at hx
  obtain ⟨c, fr, h1, h2, h3, h4, h5⟩ := (hst.obj id _ ho).at hl
  obtain ⟨g1, g2⟩ := h5 i hi
  have hlt : j + k < sz := by rw [← g1]; exact (List.getElem?_eq_some_iff.1 hx).1
  have hb : l.o + (i * sz + (j + k)) < c.size := by
    have : (i + 1) * sz ≤ n * sz := Nat.mul_le_mul_right _ hi
    have h6 : n * sz ≤ l.k * sz := Nat.mul_le_mul_right _ h3.1
    rw [Nat.succ_mul] at this
    omega
  have hy : c[l.o + (i * sz + (j + k))]? = some c[l.o + (i * sz + (j + k))] := Array.getElem?_eq_getElem hb
  obtain ⟨q1, q2⟩ := g2 (j + k) x _ hx hy
  refine ⟨_, ?_, q1, q2⟩
  rw [add_slot]
  simp only [slot, cell?_eq, cellAt, h1]
  rw [Nat.add_assoc (i * sz)]
  exact hy
theorem row_cells {id off : Nat} {T' : TypeId} {sz : Nat} {cells : List NV} {l : Loc} (hst : St W.heap β H) (ho : H[id]? = some (.row T' sz cells)) (hl : β id = some l) :
    ∀ (k : Nat) (x : NV), cells[off + k]? = some x → ∃ y, W.cell? ((slot l off).add k) = some y ∧ y.oneCell' = true ∧ (Rep W.heap (Imm W.heap β H) β H) x y := by
  intro k x hx
  obtain ⟨c, fr, h1, h2, h3, h4, h5, h6⟩ := (hst.obj id _ ho).at hl
  have hlt := (List.getElem?_eq_some_iff.1 hx).1
  have hb : l.o + (off + k) < c.size := by omega
  have hy : c[l.o + (off + k)]? = some c[l.o + (off + k)] := Array.getElem?_eq_getElem hb
  obtain ⟨q1, q2⟩ := h6 (off + k) x _ hx hy
  refine ⟨_, ?_, q1, q2⟩
  rw [add_slot]
  simp only [slot, cell?_eq, cellAt, h1]
  exact hy
theorem loadN_run {T : TypeId} {x r : NV} {a : Value} (hst : St W.heap β H) (h : loadN P H T x = some r) (hx : (Rep W.heap (Imm W.heap β H) β H) x a) : ∃ v, (Instr.loadAt T a).run P W = .ok v W ∧ (Rep W.heap (Imm W.heap β H) β H) r v := by
  unfold loadN at h
  split at h
  · rename_i ag s ha hs
    split at h
    · rename_i id off
      split at h
      · rename_i T' sz cells ho
        cases hx with
        | ptr _ _ l hid hl =>
          cases ag with
          | true =>
            simp only [if_true] at h
            split at h
            · rename_i hle
              cases h
              have hex : ∀ j, j < s → ∃ y, W.cell? ((slot l off).add j) = some y ∧ ∃ x, cells[off + j]? = some x ∧ (Rep W.heap (Imm W.heap β H) β H) x y := fun j hj => by
                obtain ⟨y, h1, _, h2⟩ := row_cells (off := off) hst ho hl j cells[off + j] (List.getElem?_eq_getElem (by omega))
                exact ⟨y, h1, _, List.getElem?_eq_getElem (by omega), h2⟩
              refine ⟨_, loadVar_agg (fun j => (W.cell? ((slot l off).add j)).getD undef) ha hs (fun j hj => ?_), .agg _ _ (by simp; omega) fun i x y hx hy => ?_⟩
              · obtain ⟨y, h1, _⟩ := hex j hj
                rw [h1]; rfl
              · rw [List.getElem?_take] at hx
                split at hx
                · rename_i hi
                  rw [List.getElem?_drop] at hx
                  obtain ⟨z, h1, x', h2, h3⟩ := hex i hi
                  rw [h2] at hx; cases hx
                  have hy' : y = z := by
                    simp only [List.getElem?_toArray, List.getElem?_map, List.getElem?_range hi, Option.map_some, h1, Option.getD_some] at hy
                    exact (Option.some.inj hy).symm
                  subst hy'
                  exact h3
                · cases hx
            · cases h
          | false =>
            simp only [Bool.false_eq_true, if_false] at h
            obtain ⟨y, h1, _, h2⟩ := row_cells (off := off) hst ho hl 0 r (by simpa using h)
            have h0 : (slot l off).add 0 = slot l off := by simp [Addr.add]
            rw [h0] at h1
            exact ⟨y, loadVar_one ha h1, h2⟩
      · cases h
    · rename_i id i j
      split at h
      · rename_i T' rw' sz n get ho
        cases hx with
        | pe _ _ _ l _ _ _ _ _ ho' hi hl =>
          rw [ho] at ho'
          cases ho'
          exact take_run ha hs (fun k x hk => by obtain ⟨y, h1, _, h2⟩ := pe_cells hst ho hi hl k x hk; exact ⟨y, h1, h2⟩) h
      · cases h
    · rename_i cells
      cases hx with
      | vp _ b o hi hc =>
        exact take_run ha hs (fun k x hk => by
          obtain ⟨y, h1, _, h2⟩ := hc k x hk
          exact ⟨y, by rw [add_plain', cell?_eq]; exact h1, h2⟩) h
    · cases h
  · cases h
end
end Go.Proofs.Eng
