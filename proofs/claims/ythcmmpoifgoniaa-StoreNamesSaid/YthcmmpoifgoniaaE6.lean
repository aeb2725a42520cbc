/- The engine, part 6: cells of values; what is built; what is equal. -/
import Derived.Test.YthcmmpoifgoniaaE5
set_option linter.unusedVariables false
set_option linter.unusedSimpArgs false
namespace Go.Proofs.Eng

def oneN : NV → Bool
  | .p (.v x) => x.oneCell'
  | .p (.agg _) => false
  | .agg _ => false
  | .tup _ => false
  | .junk => false
  | _ => true
/-- A value's cells. -/
def cellsN : NV → Option (List NV)
  | .agg xs => if xs.all oneN then some xs else none
  | x => if oneN x then some [x] else none

section
variable {hp : Heap} {imm : Nat → Prop} {β : Beta} {H : NH}
theorem Rep.one {x : NV} {y : Value} (h : Rep hp imm β H x y) (ho : oneN x = true) : y.oneCell' = true := by
  cases h with
  | p x y h =>
    cases h with
    | v x => exact ho
    | agg xs ys hl h => cases ho
    | _ => rfl
  | agg => cases ho
  | tup => cases ho
  | junk => cases ho
  | _ => rfl
/-- The cells read as. -/
def RepC (hp : Heap) (imm : Nat → Prop) (β : Beta) (H : NH) (xs : List NV) (ys : Array Value) : Prop :=
  ys.size = xs.length ∧ ∀ (i : Nat) (x : NV) (y : Value), xs[i]? = some x → ys[i]? = some y → y.oneCell' = true ∧ Rep hp imm β H x y
theorem Rep.cells {x : NV} {y : Value} (h : Rep hp imm β H x y) {cs : List NV} (hc : cellsN x = some cs) : RepC hp imm β H cs y.cells := by
  have hone : ∀ z : NV, z = x → oneN z = true → cs = [x] → RepC hp imm β H cs y.cells := by
    rintro z rfl ho rfl
    have h1 := h.one ho
    have hy : y.cells = #[y] := by cases y <;> first | rfl | cases h1
    rw [hy]
    refine ⟨rfl, fun i a b ha hb => ?_⟩
    cases i with
    | zero => simp at ha hb; subst ha; subst hb; exact ⟨h1, h⟩
    | succ i => simp at ha
  cases x with
  | agg xs =>
    simp only [cellsN] at hc
    split at hc
    · rename_i hall
      cases hc
      cases h with
      | agg _ ys hl h =>
        refine ⟨hl, fun i a b ha hb => ?_⟩
        have hr := h i a b ha hb
        exact ⟨hr.one (List.all_eq_true.1 hall a (List.mem_of_getElem? ha)), hr⟩
    · cases hc
  | _ =>
    simp only [cellsN] at hc
    split at hc
    · rename_i ho
      cases hc
      exact hone _ rfl ho rfl
    · cases hc

/-- Some cells are others. -/
def splice (cs : List NV) (off : Nat) (vs : List NV) : List NV := cs.take off ++ vs ++ cs.drop (off + vs.length)
def fillN (place : Nat → Option (Nat × Nat)) : List NV → List (Nat × NV) → Option (List NV)
  | cs, [] => some cs
  | cs, (i, v) :: rest =>
    match place i, cellsN v with
    | some (off, size), some vs => if vs.length = size ∧ off + vs.length ≤ cs.length then fillN place (splice cs off vs) rest else none
    | _, _ => none

theorem foldl_set (vs : List Value) : ∀ (k : Nat) (cs : Array Value) (off : Nat), off + k + vs.length ≤ cs.size →
    ((vs.zipIdx k).foldl (fun cs (c, j) => cs.setIfInBounds (off + j) c) cs).size = cs.size ∧
    ∀ i, ((vs.zipIdx k).foldl (fun cs (c, j) => cs.setIfInBounds (off + j) c) cs)[i]? = if off + k ≤ i ∧ i < off + k + vs.length then vs[i - (off + k)]? else cs[i]? := by
  induction vs with
  | nil => intro k cs off h; exact ⟨rfl, fun i => by simp; omega⟩
  | cons v vs ih =>
    intro k cs off h
    simp only [List.length_cons] at h
    simp only [List.zipIdx_cons, List.foldl_cons]
    obtain ⟨h1, h2⟩ := ih (k + 1) (cs.setIfInBounds (off + k) v) off (by simp; omega)
    refine ⟨by rw [h1]; simp, fun i => ?_⟩
    rw [h2 i]
    by_cases hi : i = off + k
    · subst hi
      rw [if_neg (by omega), if_pos (by simp), Array.getElem?_setIfInBounds_self_of_lt (by omega)]
      simp
    · rw [Array.getElem?_setIfInBounds_ne (by omega)]
      by_cases hc : off + (k + 1) ≤ i ∧ i < off + (k + 1) + vs.length
      · rw [if_pos hc, if_pos (by simp only [List.length_cons]; omega), show i - (off + k) = (i - (off + (k + 1))) + 1 by omega, List.getElem?_cons_succ]
      · rw [if_neg hc, if_neg (by simp only [List.length_cons]; omega)]
theorem splice_length {cs vs : List NV} {off : Nat} (h : off + vs.length ≤ cs.length) : (splice cs off vs).length = cs.length := by
  simp [splice]; omega
theorem splice_get {cs vs : List NV} {off : Nat} (h : off + vs.length ≤ cs.length) (i : Nat) :
    (splice cs off vs)[i]? = if off ≤ i ∧ i < off + vs.length then vs[i - off]? else cs[i]? := by
  unfold splice
  have hlt : (cs.take off).length = off := by rw [List.length_take]; omega
  rw [List.append_assoc]
  by_cases h1 : i < off
  · rw [List.getElem?_append_left (by omega), List.getElem?_take, if_pos h1, if_neg (by omega)]
  · rw [List.getElem?_append_right (by omega), hlt]
    by_cases h2 : i < off + vs.length
    · rw [List.getElem?_append_left (by omega), if_pos (by omega)]
    · rw [List.getElem?_append_right (by omega), List.getElem?_drop, if_neg (by omega)]
      congr 1; omega
theorem fill_rep (place : Nat → Option (Nat × Nat)) : ∀ (parts : List (Nat × NV)) (parts' : List (Nat × Value)) (cs : List NV) (c : Array Value) (r : List NV),
    parts'.length = parts.length → (∀ (i : Nat) (p : Nat × NV) (p' : Nat × Value), parts[i]? = some p → parts'[i]? = some p' → p'.1 = p.1 ∧ Rep hp imm β H p.2 p'.2) →
    RepC hp imm β H cs c → fillN place cs parts = some r → ∃ c', Instr.fill place c parts' = some c' ∧ RepC hp imm β H r c' := by
  intro parts
  induction parts with
  | nil =>
    intro parts' cs c r hl hp' hc hr
    obtain rfl : parts' = [] := List.eq_nil_of_length_eq_zero hl
    simp only [fillN] at hr
    cases hr
    exact ⟨c, rfl, hc⟩
  | cons p parts ih =>
    intro parts' cs c r hl hp' hc hr
    obtain ⟨j, v⟩ := p
    cases parts' with
    | nil => simp at hl
    | cons p' parts' =>
      obtain ⟨j', v'⟩ := p'
      obtain ⟨rfl, hv⟩ := hp' 0 (j, v) (j', v') rfl rfl
      simp only [fillN] at hr
      split at hr
      · rename_i off size vs hpl hvs
        split at hr
        · rename_i hcond
          obtain ⟨hsz, hfit⟩ := hcond
          have hcs := Rep.cells hv hvs
          simp only at hcs
          have hlen : v'.cells.toList.length = vs.length := by rw [Array.length_toList]; exact hcs.1
          obtain ⟨f1, f2⟩ := foldl_set v'.cells.toList 0 c off (by rw [hlen, hc.1]; omega)
          have hz : v'.cells.zipIdx.foldl (fun cs (x, k) => cs.setIfInBounds (off + k) x) c = (v'.cells.toList.zipIdx 0).foldl (fun cs (x, k) => cs.setIfInBounds (off + k) x) c := by
            rw [← Array.foldl_toList, Array.toList_zipIdx]
          have hnew : RepC hp imm β H (splice cs off vs) (v'.cells.zipIdx.foldl (fun cs (x, k) => cs.setIfInBounds (off + k) x) c) := by
            rw [hz]
            refine ⟨by rw [f1, splice_length hfit]; exact hc.1, fun i a b ha hb => ?_⟩
            rw [splice_get hfit] at ha
            rw [f2 i, hlen] at hb
            simp only [Nat.add_zero] at hb
            by_cases hi : off ≤ i ∧ i < off + vs.length
            · rw [if_pos hi] at ha hb
              rw [Array.getElem?_toList] at hb
              exact hcs.2 _ a b ha hb
            · rw [if_neg hi] at ha hb
              exact hc.2 i a b ha hb
          obtain ⟨c', hc', hr'⟩ := ih parts' _ _ r (by simpa using hl) (fun i p p' h1 h2 => hp' (i + 1) p p' (by simpa using h1) (by simpa using h2)) hnew hr
          refine ⟨c', ?_, hr'⟩
          simp only [Instr.fill, hpl]
          rw [if_neg]
          · exact hc'
          · rw [hcs.1, hc.1]
            simp only [bne_iff_ne, ne_eq, Bool.or_eq_true, decide_eq_true_eq, not_or]
            omega
        · cases hr
      · cases hr
end

/-! Types -/
def zeroCells (P : Program) (T : TypeId) : Option (List NV) := (P.info? T).bind fun i => i.zero.map fun z => z.cells.toList.map fun c => .p (.v c)
def places (P : Program) (fs : List Field) : Option (List (Nat × Nat)) := fs.mapM fun f => (P.info? f.type).map fun i => (f.offset, i.size)
def builtN (P : Program) (T : TypeId) (parts : List (Nat × NV)) : Option (List NV) :=
  match zeroCells P T with
  | none => none
  | some z =>
    if z.all oneN then
      match P.underlying T with
      | some (.array _ e) => match P.info? e with
        | some ie => fillN (fun i => some (i * ie.size, ie.size)) z parts
        | none => none
      | some (.struct fields) => match places P fields.toList with
        | some pl => fillN (fun i => pl[i]?) z parts
        | none => none
      | _ => none
    else none
section
variable {hp : Heap} {imm : Nat → Prop} {β : Beta} {H : NH}
theorem zero_repC {cs : List Value} (h : (cs.map fun c => (NV.p (.v c))).all oneN = true) : RepC hp imm β H (cs.map fun (c : Value) => NV.p (.v c)) cs.toArray := by
  refine ⟨by simp, fun i a b ha hb => ?_⟩
  rw [List.getElem?_map, Option.map_eq_some_iff] at ha
  obtain ⟨c, hc, rfl⟩ := ha
  rw [List.getElem?_toArray, hc] at hb
  cases hb
  have := List.all_eq_true.1 h (NV.p (.v b)) (List.mem_map.2 ⟨b, List.mem_of_getElem? hc, rfl⟩)
  exact ⟨this, .p _ _ (.v _)⟩
theorem built_rep {P : Program} {T : TypeId} {parts : List (Nat × NV)} {parts' : List (Nat × Value)} {r : List NV} (hl : parts'.length = parts.length)
    (hp' : ∀ (i : Nat) (p : Nat × NV) (p' : Nat × Value), parts[i]? = some p → parts'[i]? = some p' → p'.1 = p.1 ∧ Rep hp imm β H p.2 p'.2)
    (h : builtN P T parts = some r) : ∃ c, P.built T parts' = some c ∧ RepC hp imm β H r c := by
  unfold builtN at h
  split at h
  · cases h
  · rename_i z hz
    unfold zeroCells at hz
    rw [Option.bind_eq_some_iff] at hz
    obtain ⟨it, hit, hz⟩ := hz
    rw [Option.map_eq_some_iff] at hz
    obtain ⟨zv, hzv, rfl⟩ := hz
    split at h
    · rename_i hall
      have hzc : RepC hp imm β H (zv.cells.toList.map fun c => NV.p (.v c)) zv.cells := by simpa using zero_repC (hp := hp) (imm := imm) (β := β) (H := H) hall
      split at h
      · rename_i n e hu
        split at h
        · rename_i ie hie
          obtain ⟨c, h1, h2⟩ := fill_rep _ parts parts' _ _ r hl hp' hzc h
          exact ⟨c, by simp only [Program.built, hit, hu, hzv, hie]; exact h1, h2⟩
        · cases h
      · rename_i fields hu
        split at h
        · rename_i pl hpl
          obtain ⟨c, h1, h2⟩ := fill_rep _ parts parts' _ _ r hl hp' hzc h
          refine ⟨c, ?_, h2⟩
          unfold places at hpl
          simp only [Program.built, hit, hu, hzv, hpl]
          simpa using h1
        · cases h
      · cases h
    · cases h
end
end Go.Proofs.Eng
