/- The engine, part 4: objects by other numbers, and those that nothing refers to left out. -/
import Derived.Test.YthcmmpoifgoniaaE3
set_option linter.unusedVariables false
set_option linter.unusedSimpArgs false
namespace Go.Proofs.Eng

mutual
/-- A value, its objects by other numbers; one that refers to what has none is no value any more. -/
def renV (f : Nat → Option Nat) : NV → NV
  | .p x => .p x
  | .ptr id off => match f id with | some i => .ptr i off | none => .junk
  | .pe id i j => match f id with | some k => .pe k i j | none => .junk
  | .full id => match f id with | some i => .full i | none => .junk
  | .part id off len e => match f id with | some i => .part i off len e | none => .junk
  | .xsl a b c => .xsl a b c
  | .vp c => .vp c
  | .map id => match f id with | some i => .map i | none => .junk
  | .fn g a b => .fn g (renL f a) (renL f b)
  | .agg xs => .agg (renL f xs)
  | .tup xs => .tup (renL f xs)
  | .yld id => match f id with | some i => .yld i | none => .junk
  | .junk => .junk
def renL (f : Nat → Option Nat) : List NV → List NV
  | [] => []
  | x :: xs => renV f x :: renL f xs
end
theorem renL_eq (f : Nat → Option Nat) (xs : List NV) : renL f xs = xs.map (renV f) := by
  induction xs with
  | nil => rfl
  | cons x xs ih => simp [renL, ih]
def renO (f : Nat → Option Nat) : NO → NO
  | .row T sz cells => .row T sz (renL f cells)
  | .loop t ps assign body st pend => .loop (renL f t) ps assign body st pend
  | o => o
theorem renO_owned (f : Nat → Option Nat) (o : NO) : (renO f o).owned = o.owned := by cases o <;> rfl
theorem renO_alive (f : Nat → Option Nat) (o : NO) : (renO f o).alive = o.alive := by cases o <;> rfl

theorem Rep.ren {hp : Heap} {imm imm' : Nat → Prop} {β β' : Beta} {H H' : NH} {f : Nat → Option Nat} (hm : ∀ b, imm b → imm' b)
    (hf : ∀ id i, id < H.length → f id = some i → i < H'.length ∧ β' i = β id ∧ H'[i]? = H[id]?.map (renO f)) {x : NV} {y : Value} (h : Rep hp imm β H x y) :
    Rep hp imm' β' H' (renV f x) y := by
  have hm' : ∀ b, imm b → imm' b ∧ hp[b]? = hp[b]? := fun b hb => ⟨hm b hb, rfl⟩
  induction h with
  | p x y h => exact .p x y (h.mono hm')
  | ptr id off l hid hl =>
    simp only [renV]
    cases hA : f id with
    | none => exact .junk _
    | some i =>
      obtain ⟨h1, h2, _⟩ := hf id i hid hA
      exact .ptr i off l h1 (h2.trans hl)
  | pe id i j l T rw sz n get ho hi hl =>
    simp only [renV]
    cases hA : f id with
    | none => exact .junk _
    | some k =>
      obtain ⟨h1, h2, h3⟩ := hf id k (List.getElem?_eq_some_iff.1 ho).1 hA
      rw [ho] at h3
      exact .pe k i j l T rw sz n get h3 hi (h2.trans hl)
  | full0 id a hid hl =>
    simp only [renV]
    cases hA : f id with
    | none => exact .junk _
    | some i =>
      obtain ⟨h1, h2, h3⟩ := hf id i hid.lt hA
      refine .full0 i a ?_ (h2.trans hl)
      rw [h3]
      generalize H[id]? = o at hid
      cases o with
      | none => exact hid.elim
      | some o =>
        cases o with
        | row T sz cells => simp only [NilAt] at hid; subst hid; rfl
        | _ => exact hid
  | fullP id l T rw sz n get c ho hc hk' hl =>
    simp only [renV]
    cases hA : f id with
    | none => exact .junk _
    | some i =>
      obtain ⟨h1, h2, h3⟩ := hf id i (List.getElem?_eq_some_iff.1 ho).1 hA
      rw [ho] at h3
      exact .fullP i l T rw sz n get c h3 hc hk' (h2.trans hl)
  | fullR id l T sz cells c ho hc hk' hl =>
    simp only [renV]
    cases hA : f id with
    | none => exact .junk _
    | some i =>
      obtain ⟨h1, h2, h3⟩ := hf id i (List.getElem?_eq_some_iff.1 ho).1 hA
      rw [ho] at h3
      have hle : (renL f cells).length = cells.length := by rw [renL_eq, List.length_map]
      rw [← hle]; exact .fullR i l T sz _ c h3 (by rw [hle]; exact hc) hk' (h2.trans hl)
  | partP id off len e l T rw sz n get c ho hn hc he hl =>
    simp only [renV]
    cases hA : f id with
    | none => exact .junk _
    | some i =>
      obtain ⟨h1, h2, h3⟩ := hf id i (List.getElem?_eq_some_iff.1 ho).1 hA
      rw [ho] at h3
      exact .partP i off len e l T rw sz n get c h3 hn hc he (h2.trans hl)
  | partR id off len e l T sz cells c ho hn hc he hl =>
    simp only [renV]
    cases hA : f id with
    | none => exact .junk _
    | some i =>
      obtain ⟨h1, h2, h3⟩ := hf id i (List.getElem?_eq_some_iff.1 ho).1 hA
      rw [ho] at h3
      have hle : (renL f cells).length = cells.length := by rw [renL_eq, List.length_map]
      exact .partR i off len e l T sz _ c h3 (by rw [hle]; exact hn) hc he (h2.trans hl)
  | part0 id off e a hid =>
    simp only [renV]
    cases hA : f id with
    | none => exact .junk _
    | some i =>
      obtain ⟨h1, h2, _⟩ := hf id i hid hA
      exact .part0 i off e a h1
  | xsl sz n get a h => exact .xsl sz n get a (h.mono hm')
  | vp cells b o hi h =>
    refine .vp cells b o (hm b hi) fun j x hx => ?_
    obtain ⟨y, hy, h1, h2⟩ := h j x hx
    exact ⟨y, hy, h1, h2.mono hm'⟩
  | map id l hid hl =>
    simp only [renV]
    cases hA : f id with
    | none => exact .junk _
    | some i =>
      obtain ⟨h1, h2, _⟩ := hf id i hid hA
      exact .map i l h1 (h2.trans hl)
  | yld id l hid hl =>
    simp only [renV]
    cases hA : f id with
    | none => exact .junk _
    | some i =>
      obtain ⟨h1, h2, _⟩ := hf id i hid hA
      exact .yld i l h1 (h2.trans hl)
  | fn g xs xs' ys ys' hl hl' h h' ih ih' =>
    simp only [renV, renL_eq]
    refine .fn g _ _ ys ys' (by simpa using hl) (by simpa using hl') (fun i x y hx hy => ?_) (fun i x y hx hy => ?_)
    · rw [List.getElem?_map, Option.map_eq_some_iff] at hx
      obtain ⟨x0, hx, rfl⟩ := hx
      exact ih i x0 y hx hy
    · rw [List.getElem?_map, Option.map_eq_some_iff] at hx
      obtain ⟨x0, hx, rfl⟩ := hx
      exact ih' i x0 y hx hy
  | agg xs ys hl h ih =>
    simp only [renV, renL_eq]
    refine .agg _ ys (by simpa using hl) (fun i x y hx hy => ?_)
    rw [List.getElem?_map, Option.map_eq_some_iff] at hx
    obtain ⟨x0, hx, rfl⟩ := hx
    exact ih i x0 y hx hy
  | tup xs ys hl h ih =>
    simp only [renV, renL_eq]
    refine .tup _ ys (by simpa using hl) (fun i x y hx hy => ?_)
    rw [List.getElem?_map, Option.map_eq_some_iff] at hx
    obtain ⟨x0, hx, rfl⟩ := hx
    exact ih i x0 y hx hy
  | junk y => exact .junk y

theorem ObjRep.ren {hp : Heap} {imm imm' : Nat → Prop} {β β' : Beta} {H H' : NH} {f : Nat → Option Nat} (hm : ∀ b, imm b → imm' b)
    (hf : ∀ id i, id < H.length → f id = some i → i < H'.length ∧ β' i = β id ∧ H'[i]? = H[id]?.map (renO f)) {id i : Nat} {o : NO} (hb : β' i = β id)
    (h : ObjRep hp imm β H id o) : ObjRep hp imm' β' H' i (renO f o) := by
  have hm' : ∀ b, imm b → imm' b ∧ hp[b]? = hp[b]? := fun b hb => ⟨hm b hb, rfl⟩
  unfold ObjRep at h ⊢
  rw [hb]
  cases hl : β id with
  | none =>
    rw [hl] at h
    cases o with
    | row T sz cells => obtain ⟨rfl, h2⟩ := h; exact ⟨rfl, h2⟩
    | _ => exact h
  | some l =>
    rw [hl] at h
    cases o with
    | row T sz cells =>
      obtain ⟨c, fr, h1, h2, h3, h4, h5, h6⟩ := h
      refine ⟨c, fr, h1, h2, by simpa [renL_eq] using h3, h4, by simpa [renL_eq] using h5, fun k x y hx hy => ?_⟩
      rw [renL_eq, List.getElem?_map, Option.map_eq_some_iff] at hx
      obtain ⟨x0, hx, rfl⟩ := hx
      exact ⟨(h6 k x0 y hx hy).1, (h6 k x0 y hx hy).2.ren hm hf⟩
    | prow T rw' sz n get =>
      obtain ⟨c, fr, h1, h2, h3, h4, h5⟩ := h
      exact ⟨c, fr, h1, h2, h3, h4, fun i hi => ⟨(h5 i hi).1, fun j x y hx hy => ⟨((h5 i hi).2 j x y hx hy).1, ((h5 i hi).2 j x y hx hy).2.mono hm'⟩⟩⟩
    | map es =>
      obtain ⟨me, clock, h1, h2, h3, h4⟩ := h
      exact ⟨me, clock, h1, h2, fun i k x e hx he => ⟨(h3 i k x e hx he).1, (h3 i k x e hx he).2.mono hm'⟩, h4⟩
    | loop t ps assign body st pend =>
      obtain ⟨fn, tmps, d, h1, h2, h3⟩ := h
      refine ⟨fn, tmps, d, h1, by simpa [renL_eq] using h2, fun k x y hx hy => ?_⟩
      rw [renL_eq, List.getElem?_map, Option.map_eq_some_iff] at hx
      obtain ⟨x0, hx, rfl⟩ := hx
      exact (h3 k x0 y hx hy).ren hm hf
    | dead => trivial

/-- Some of the objects, by other numbers: 'ks' are the elder numbers. -/
def pick (ks : List Nat) (H : NH) : NH := ks.map fun k => H.getD k .dead
/-- The newer number. -/
def newNo (ks : List Nat) (i : Nat) : Option Nat := ks.idxOf? i
def subH (ks : List Nat) (H : NH) : NH := (pick ks H).map (renO (newNo ks))
def subB (ks : List Nat) (β : Beta) : Beta := fun i => match ks[i]? with | some k => β k | none => none

theorem newNo_some {ks : List Nat} {i j : Nat} (h : newNo ks i = some j) : ks[j]? = some i := by
  unfold newNo at h
  rw [List.idxOf?_eq_some_iff] at h
  obtain ⟨hj, h1, h2⟩ := h
  rw [List.getElem?_eq_getElem hj]
  simpa using h1
theorem newNo_of {ks : List Nat} (hn : ks.Nodup) {i j : Nat} (h : ks[j]? = some i) : newNo ks i = some j := by
  unfold newNo
  obtain ⟨hj, rfl⟩ := List.getElem?_eq_some_iff.1 h
  rw [List.idxOf?_eq_some_iff]
  refine ⟨hj, by simp, fun k hk => ?_⟩
  intro e
  have e' : ks[k]'(by omega) = ks[j] := by simpa using e
  have hp := List.pairwise_iff_getElem.1 hn k j (by omega) hj hk
  exact hp e'

theorem subH_get {ks : List Nat} {H : NH} (hk : ∀ k ∈ ks, k < H.length) (i : Nat) : (subH ks H)[i]? = (ks[i]?.bind fun k => H[k]?).map (renO (newNo ks)) := by
  unfold subH pick
  rw [List.getElem?_map, List.getElem?_map]
  cases h : ks[i]? with
  | none => rfl
  | some k =>
    have hlt := hk k (List.mem_of_getElem? h)
    simp [List.getD_eq_getElem?_getD, List.getElem?_eq_getElem hlt]
theorem subH_length (ks : List Nat) (H : NH) : (subH ks H).length = ks.length := by simp [subH, pick]

theorem sub_ren {ks : List Nat} {β : Beta} {H : NH} (hk : ∀ k ∈ ks, k < H.length) :
    ∀ id i, id < H.length → newNo ks id = some i → i < (subH ks H).length ∧ subB ks β i = β id ∧ (subH ks H)[i]? = H[id]?.map (renO (newNo ks)) := by
  intro id i hid hf
  have h := newNo_some hf
  refine ⟨by rw [subH_length]; exact (List.getElem?_eq_some_iff.1 h).1, by simp [subB, h], ?_⟩
  rw [subH_get hk, h]; rfl

theorem Imm.sub {hp : Heap} {β : Beta} {H : NH} {ks : List Nat} (hk : ∀ k ∈ ks, k < H.length) {b : Nat} (h : Imm hp β H b) : Imm hp (subB ks β) (subH ks H) b := by
  refine ⟨h.1, ?_⟩
  rintro ⟨i, o, l, ho, hw, hl, rfl⟩
  rw [subH_get hk] at ho
  simp only [subB] at hl
  cases hi : ks[i]? with
  | none => rw [hi] at hl; cases hl
  | some k =>
    rw [hi] at ho hl
    simp only [Option.bind_some, Option.map_eq_some_iff] at ho
    obtain ⟨o0, ho, rfl⟩ := ho
    exact h.2 ⟨k, o0, l, ho, by rwa [renO_owned] at hw, hl, rfl⟩

theorem St.sub {hp : Heap} {β : Beta} {H : NH} (h : St hp β H) {ks : List Nat} (hn : ks.Nodup) (hk : ∀ k ∈ ks, k < H.length) : St hp (subB ks β) (subH ks H) := by
  have hget : ∀ (i : Nat) (o : NO), (subH ks H)[i]? = some o → ∃ k o0, ks[i]? = some k ∧ H[k]? = some o0 ∧ o = renO (newNo ks) o0 := by
    intro i o ho
    rw [subH_get hk] at ho
    cases hi : ks[i]? with
    | none => rw [hi] at ho; cases ho
    | some k =>
      rw [hi] at ho
      simp only [Option.bind_some, Option.map_eq_some_iff] at ho
      obtain ⟨o0, ho, rfl⟩ := ho
      exact ⟨k, o0, rfl, ho, rfl⟩
  refine ⟨fun i o ho => ?_, fun i j o o' ho ho' hne hw ha l l' hl hl' => ?_⟩
  · obtain ⟨k, o0, hi, hk0, rfl⟩ := hget i o ho
    exact (h.obj k o0 hk0).ren (fun b hb => Imm.sub hk hb) (sub_ren hk) (by simp [subB, hi])
  · obtain ⟨k, o0, hi, hk0, rfl⟩ := hget i o ho
    obtain ⟨k', o0', hi', hk0', rfl⟩ := hget j o' ho'
    simp only [subB, hi] at hl
    simp only [subB, hi'] at hl'
    refine h.apart k k' o0 o0' hk0 hk0' (fun e => hne ?_) (by rwa [renO_owned] at hw) (by rwa [renO_alive] at ha) l l' hl hl'
    subst e
    have h1 := newNo_of hn hi
    have h2 := newNo_of hn hi'
    rw [h1] at h2; injection h2
theorem Rep.sub {hp : Heap} {β : Beta} {H : NH} {ks : List Nat} (hk : ∀ k ∈ ks, k < H.length) {x : NV} {y : Value} (h : Rep hp (Imm hp β H) β H x y) :
    Rep hp (Imm hp (subB ks β) (subH ks H)) (subB ks β) (subH ks H) (renV (newNo ks) x) y := h.ren (fun b hb => Imm.sub hk hb) (sub_ren hk)
end Go.Proofs.Eng
