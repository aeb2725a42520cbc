/- The engine, part 7: what is equal; operations that look at no object, all of them. -/
import Derived.Test.YthcmmpoifgoniaaE6
import Derived.Laws.StructEq
set_option linter.unusedVariables false
set_option linter.unusedSimpArgs false
namespace Go.Proofs.Eng

def tyAgg (P : Program) (T : TypeId) : Option Bool :=
  match P.underlying T with
  | some (.struct _) => some true
  | some (.array _ _) => some true
  | some _ => some false
  | none => none
def tySz (P : Program) (T : TypeId) : Option Nat := (P.info? T).map (·.size)
def partN (P : Program) (T : TypeId) (xs : List NV) (off : Nat) : Option NV :=
  match tyAgg P T, tySz P T with
  | some true, some s => some (.agg ((xs.drop off).take s))
  | some false, _ => xs[off]?
  | _, _ => none
/-- A pointer that is not nil. -/
def isRef : NV → Bool
  | .ptr .. => true
  | .pe .. => true
  | .vp _ => true
  | .p (.v (.pointer (some _))) => true
  | _ => false
def eqFieldsN (eq : TypeId → NV → NV → Option Bool) (P : Program) (xs ys : List NV) : List Field → Option Bool
  | [] => some true
  | f :: fs =>
    if f.name = "_" then eqFieldsN eq P xs ys fs
    else match partN P f.type xs f.offset, partN P f.type ys f.offset with
      | some a, some b => match eq f.type a b, eqFieldsN eq P xs ys fs with
        | some r, some s => some (r && s)
        | _, _ => none
      | _, _ => none
def eqPlain (P : Program) (T : TypeId) (a b : Value) : Option Bool :=
  match P.underlying T, a, b with
  | some .bool, .bool a, .bool b => some (a == b)
  | some (.int _), .int k a, .int k' b => if k = k' then some (a == b) else none
  | some .string, .string a, .string b => some (a.data.toList == b.data.toList)
  | some (.pointer _), .pointer none, .pointer b => some b.isNone
  | some (.pointer _), .pointer (some _), .pointer none => some false
  | some (.interface _), .nilIface, .nilIface => some true
  | some (.map _ _), .map none, .map none => some true
  | some (.slice _), .slice none _ _, .slice none _ _ => some true
  | some (.func _ _ _), .nilFunc, .nilFunc => some true
  | _, _, _ => none
def isPtrTy (P : Program) (T : TypeId) : Bool := match P.underlying T with | some (.pointer _) => true | _ => false
def eqN (P : Program) : Nat → TypeId → NV → NV → Option Bool
  | 0, _, _, _ => none
  | d + 1, T, x, y =>
    match x, y with
    | .p (.v a), .p (.v b) => eqPlain P T a b
    | .agg xs, .agg ys =>
      match P.underlying T with
      | some (.struct fs) => if P.stoodInHeld T = false then eqFieldsN (eqN P d) P xs ys fs.toList else none
      | _ => none
    | .p (.v (.pointer none)), r => if isPtrTy P T && isRef r then some false else none
    | r, .p (.v (.pointer none)) => if isPtrTy P T && isRef r then some false else none
    | _, _ => none

section
variable {hp : Heap} {imm : Nat → Prop} {β : Beta} {H : NH} {P : Program} {W : World}
theorem tyAgg_run {T : TypeId} {b : Bool} (h : tyAgg P T = some b) : (isAgg T).run P W = .ok b W := by
  unfold tyAgg at h
  split at h <;> first
    | (rename_i hu; cases h; simp [isAgg, run_underlying hu]; done)
    | (rename_i d h1 h2 hu
       cases h
       simp only [isAgg, Sem.run_bind, run_underlying hu, Result.andThen_ok]
       split
       · exact absurd hu (h1 _)
       · exact absurd hu (h2 _ _)
       · rfl)
    | cases h
theorem tySz_run {T : TypeId} {s : Nat} (h : tySz P T = some s) : (sizeOf T).run P W = .ok s W := by
  unfold tySz at h
  rw [Option.map_eq_some_iff] at h
  obtain ⟨i, hi, rfl⟩ := h
  simp [sizeOf, typeInfo, hi]
theorem part_run {T : TypeId} {xs : List NV} {ys : Array Value} {off : Nat} {x : NV} (hl : ys.size = xs.length)
    (hr : ∀ (i : Nat) (x : NV) (y : Value), xs[i]? = some x → ys[i]? = some y → Rep hp imm β H x y) (h : partN P T xs off = some x) :
    ∃ y, (part T ys off).run P W = .ok y W ∧ Rep hp imm β H x y := by
  unfold partN at h
  split at h
  · rename_i s ha hs
    cases h
    refine ⟨.agg (ys.extract off (off + s)), by simp only [part, Sem.run_bind, tyAgg_run ha, tySz_run hs, Result.andThen_ok, if_true, Sem.run_pure], ?_⟩
    refine .agg _ _ (by simp; omega) fun i a b hi hb => ?_
    rw [List.getElem?_take] at hi
    split at hi
    · rename_i hlt
      rw [List.getElem?_drop] at hi
      rw [Array.getElem?_extract] at hb
      split at hb
      · exact hr _ a b hi hb
      · cases hb
    · cases hi
  · rename_i ha
    have hlt := (List.getElem?_eq_some_iff.1 h).1
    have hy : ys[off]? = some ys[off] := Array.getElem?_eq_getElem (by omega)
    refine ⟨ys[off]'(by omega), ?_, hr off x _ h hy⟩
    simp only [part, Sem.run_bind, tyAgg_run ha, Result.andThen_ok, Bool.false_eq_true, if_false, hy, Sem.run_pure]
  · cases h
theorem isRef_inv {x : NV} {y : Value} (h : isRef x = true) (hr : Rep hp imm β H x y) : ∃ a, y = .pointer (some a) := by
  cases hr with
  | p x y hp' =>
    cases hp' with
    | v x =>
      unfold isRef at h
      split at h <;> first | (rename_i e; cases e; exact ⟨_, rfl⟩) | (rename_i e; cases e) | skip
      all_goals cases h
    | _ => cases h
  | ptr => exact ⟨_, rfl⟩
  | pe => exact ⟨_, rfl⟩
  | vp => exact ⟨_, rfl⟩
  | _ => cases h
theorem eqPlain_run {T : TypeId} {a b : Value} {r : Bool} (d : Nat) (h : eqPlain P T a b = some r) : (Op.equalIn (d + 1) T a b).run P W = .ok r W := by
  unfold eqPlain at h
  split at h
  · rename_i hu; cases h; simp [Op.equalIn, run_underlying hu]
  · rename_i hu
    split at h
    · rename_i hk; cases h; simp [Op.equalIn, run_underlying hu, hk]
    · cases h
  · rename_i hu; cases h; simp [Op.equalIn, run_underlying hu, beq_toListBytes, ByteArray.toList_eq]
  · rename_i hu; cases h; simp [Op.equalIn, run_underlying hu]
  · rename_i hu; cases h; simp [Op.equalIn, run_underlying hu]
  · rename_i hu; cases h; simp [Op.equalIn, run_underlying hu]
  · rename_i hu; cases h; simp [Op.equalIn, run_underlying hu]
  · rename_i hu; cases h; simp [Op.equalIn, run_underlying hu]
  · rename_i hu; cases h; simp [Op.equalIn, run_underlying hu]
  · cases h
theorem eqFields_run (eq : TypeId → NV → NV → Option Bool) (d : Nat) {xs ys : List NV} {as bs : Array Value}
    (heq : ∀ T x y a b r, eq T x y = some r → Rep hp imm β H x a → Rep hp imm β H y b → (Op.equalIn d T a b).run P W = .ok r W)
    (hl : as.size = xs.length) (hl' : bs.size = ys.length)
    (hr : ∀ (i : Nat) (x : NV) (y : Value), xs[i]? = some x → as[i]? = some y → Rep hp imm β H x y)
    (hr' : ∀ (i : Nat) (x : NV) (y : Value), ys[i]? = some x → bs[i]? = some y → Rep hp imm β H x y) :
    ∀ (fs : List Field) (r : Bool), eqFieldsN eq P xs ys fs = some r → (Op.eqFields d as bs fs).run P W = .ok r W := by
  intro fs
  induction fs with
  | nil => intro r h; simp only [eqFieldsN] at h; cases h; simp [Op.eqFields]
  | cons f fs ih =>
    intro r h
    simp only [eqFieldsN] at h
    simp only [Op.eqFields]
    by_cases hn : f.name = "_"
    · rw [if_pos hn] at h
      rw [if_neg (by simpa using hn)]
      exact ih r h
    · rw [if_neg hn] at h
      rw [if_pos (by simpa using hn)]
      split at h
      · rename_i a b ha hb
        split at h
        · rename_i r1 s1 h1 h2
          cases h
          obtain ⟨y, hy, hry⟩ := part_run (W := W) hl hr ha
          obtain ⟨z, hz, hrz⟩ := part_run (W := W) hl' hr' hb
          have he := heq f.type a b y z r1 h1 hry hrz
          have ht := ih s1 h2
          simp only [Sem.run_bind, hy, hz, he, Result.andThen_ok]
          cases r1
          · simp
          · simpa using ht
        · cases h
      · cases h
theorem eqN_run : ∀ (d : Nat) (T : TypeId) (x y : NV) (a b : Value) (r : Bool) (D : Nat), eqN P d T x y = some r → d ≤ D → Rep hp imm β H x a → Rep hp imm β H y b →
    (Op.equalIn D T a b).run P W = .ok r W := by
  intro d
  induction d with
  | zero => intro T x y a b r D h; simp [eqN] at h
  | succ d ih =>
    intro T x y a b r D h hD hx hy
    obtain ⟨D, rfl⟩ : ∃ m, D = m + 1 := ⟨D - 1, by omega⟩
    unfold eqN at h
    split at h
    · obtain rfl := hx.v_inv
      obtain rfl := hy.v_inv
      exact eqPlain_run D h
    · rename_i xs ys
      split at h
      · rename_i fs hu
        split at h
        · rename_i hst
          cases hx with
          | agg _ as hl hr =>
            cases hy with
            | agg _ bs hl' hr' =>
              have hf : P.fieldsOf T = fs := by simp [Program.fieldsOf, hu]
              rw [run_equalIn_struct W D T as bs (by rw [hf]; exact hu) hst, hf]
              exact eqFields_run (eqN P d) D (fun T x y a b r h1 h2 h3 => ih T x y a b r D h1 (by omega) h2 h3) hl hl' hr hr' _ _ h
        · cases h
      · cases h
    · split at h
      · rename_i hc
        cases h
        simp only [Bool.and_eq_true] at hc
        obtain rfl := hx.v_inv
        obtain ⟨a', rfl⟩ := isRef_inv hc.2 hy
        have hp' := hc.1
        unfold isPtrTy at hp'
        split at hp'
        · rename_i e hu
          simp [Op.equalIn, run_underlying hu]
        · cases hp'
      · cases h
    · split at h
      · rename_i hc
        cases h
        simp only [Bool.and_eq_true] at hc
        obtain rfl := hy.v_inv
        obtain ⟨a', rfl⟩ := isRef_inv hc.2 hx
        have hp' := hc.1
        unfold isPtrTy at hp'
        split at hp'
        · rename_i e hu
          simp [Op.equalIn, run_underlying hu]
        · cases hp'
      · cases h
    · cases h
end
end Go.Proofs.Eng
