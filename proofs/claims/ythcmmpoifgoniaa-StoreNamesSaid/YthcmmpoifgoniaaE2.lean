/- The engine, part 2: from a state to a later one. -/
import Derived.Test.YthcmmpoifgoniaaE1
set_option linter.unusedVariables false
set_option linter.unusedSimpArgs false
namespace Go.Proofs.Eng

mutual
/-- What refers to an object of A is no value any more. -/
def cleanV (A : Nat → Bool) : NV → NV
  | .p x => .p x
  | .ptr id off => if A id then .junk else .ptr id off
  | .pe id i j => if A id then .junk else .pe id i j
  | .full id => if A id then .junk else .full id
  | .part id off len e => if A id then .junk else .part id off len e
  | .xsl a b c => .xsl a b c
  | .vp c => .vp c
  | .map id => if A id then .junk else .map id
  | .fn f a b => .fn f (cleanL A a) (cleanL A b)
  | .agg xs => .agg (cleanL A xs)
  | .tup xs => .tup (cleanL A xs)
  | .yld id => if A id then .junk else .yld id
  | .junk => .junk
def cleanL (A : Nat → Bool) : List NV → List NV
  | [] => []
  | x :: xs => cleanV A x :: cleanL A xs
end
theorem cleanL_eq (A : Nat → Bool) (xs : List NV) : cleanL A xs = xs.map (cleanV A) := by
  induction xs with
  | nil => rfl
  | cons x xs ih => simp [cleanL, ih]
def cleanO (A : Nat → Bool) : NO → NO
  | .row T sz cells => .row T sz (cleanL A cells)
  | .loop t ps assign body st pend => .loop (cleanL A t) ps assign body st pend
  | o => o
theorem cleanO_owned (A : Nat → Bool) (o : NO) : (cleanO A o).owned = o.owned := by cases o <;> rfl
theorem cleanO_alive (A : Nat → Bool) (o : NO) : (cleanO A o).alive = o.alive := by cases o <;> rfl

/-- As long, of the same make. -/
def Shape : Option NO → Option NO → Prop
  | some (.row T sz cells), o' => ∃ cells', o' = some (.row T sz cells') ∧ cells'.length = cells.length
  | some (.prow T rw sz n get), o' => ∃ rw' get', o' = some (.prow T rw' sz n get')
  | _, _ => True
theorem Shape.refl (o : Option NO) : Shape o o := by
  cases o with
  | none => trivial
  | some o => cases o <;> simp [Shape]
theorem Shape.trans {a b c : Option NO} (h : Shape a b) (h' : Shape b c) : Shape a c := by
  cases a with
  | none => trivial
  | some o =>
    cases o with
    | row T sz cells =>
      obtain ⟨c1, rfl, e⟩ := h
      obtain ⟨c2, rfl, e2⟩ := h'
      exact ⟨c2, rfl, e2.trans e⟩
    | prow T rw sz n get =>
      obtain ⟨r1, g1, rfl⟩ := h
      obtain ⟨r2, g2, rfl⟩ := h'
      exact ⟨r2, g2, rfl⟩
    | map es => trivial
    | loop => trivial
    | dead => trivial
theorem Shape.clean (A : Nat → Bool) (o : Option NO) : Shape o (o.map (cleanO A)) := by
  cases o with
  | none => trivial
  | some o => cases o <;> simp [Shape, cleanO, cleanL_eq]

theorem NilAt.shape {a b : Option NO} (h : NilAt a) (hs : Shape a b) : NilAt b := by
  cases a with
  | none => exact h.elim
  | some o =>
    cases o with
    | row T sz cells => obtain ⟨c, rfl, e⟩ := hs; simp only [NilAt] at h ⊢; subst h; simpa using e
    | prow T rw' sz n get => obtain ⟨r, g, rfl⟩ := hs; exact h
    | map es => exact h.elim
    | loop => exact h.elim
    | dead => exact h.elim
theorem NilAt.lt {H : NH} {id : Nat} (h : NilAt H[id]?) : id < H.length := by
  rcases Nat.lt_or_ge id H.length with h1 | h1
  · exact h1
  · rw [List.getElem?_eq_none h1] at h; exact h.elim
/-- Where an object lies does not turn, but of what was nowhere. -/
def Stays (β : Beta) (o : Option NO) (β' : Beta) (id : Nat) : Prop := β' id = β id ∨ (β id = none ∧ ¬ NilAt o)
theorem Stays.some {β β' : Beta} {o : Option NO} {id : Nat} {l : Loc} (h : Stays β o β' id) (hl : β id = some l) : β' id = some l := by
  rcases h with h | ⟨h, _⟩
  · exact h.trans hl
  · rw [hl] at h; cases h
theorem Stays.nil {β β' : Beta} {o : Option NO} {id : Nat} (h : Stays β o β' id) (hl : β id = none) (hn : NilAt o) : β' id = none := by
  rcases h with h | ⟨_, h⟩
  · exact h.trans hl
  · exact absurd hn h

structure Good (hp : Heap) (β : Beta) (H : NH) (hp' : Heap) (β' : Beta) (H' : NH) (A : Nat → Bool) : Prop where
  ext : Ext hp β H hp' β' H'
  keep : ∀ id, id < H.length → A id = false → id < H'.length ∧ Stays β H[id]? β' id ∧ Shape H[id]? H'[id]?
  born : ∀ id o l, H'[id]? = some o → o.alive = true → β' id = some l → (∃ o0, H[id]? = some o0 ∧ o0.alive = true ∧ β id = some l) ∨ ¬ Imm hp β H l.b

theorem Good.refl (hp : Heap) (β : Beta) (H : NH) : Good hp β H hp β H (fun _ => false) := ⟨Ext.refl _ _ _, fun _ h _ => ⟨h, .inl rfl, Shape.refl _⟩, fun id o l h1 h2 h3 => .inl ⟨o, h1, h2, h3⟩⟩
theorem Good.trans {hp hp' hp'' : Heap} {β β' β'' : Beta} {H H' H'' : NH} {A B : Nat → Bool} (h : Good hp β H hp' β' H' A) (h' : Good hp' β' H' hp'' β'' H'' B) :
    Good hp β H hp'' β'' H'' (fun i => A i || B i) := by
  refine ⟨h.ext.trans h'.ext, fun id hid hA => ?_, fun id o l h1 h2 h3 => ?_⟩
  case refine_2 =>
    rcases h'.born id o l h1 h2 h3 with ⟨o1, k1, k2, k3⟩ | k
    · exact h.born id o1 l k1 k2 k3
    · exact .inr fun hi => k (h.ext.imm _ hi).1
  simp only [Bool.or_eq_false_iff] at hA
  obtain ⟨h1, h2, h3⟩ := h.keep id hid hA.1
  obtain ⟨k1, k2, k3⟩ := h'.keep id h1 hA.2
  refine ⟨k1, ?_, h3.trans k3⟩
  rcases h2 with h2 | h2
  · rcases k2 with k2 | ⟨k2, k4⟩
    · exact .inl (k2.trans h2)
    · exact .inr ⟨h2.symm.trans k2, fun hn => k4 (hn.shape h3)⟩
  · exact .inr h2
theorem Good.wider {hp hp' : Heap} {β β' : Beta} {H H' : NH} {A B : Nat → Bool} (h : Good hp β H hp' β' H' A) (hab : ∀ i, A i = true → B i = true) :
    Good hp β H hp' β' H' B :=
  ⟨h.ext, fun id hid hB => h.keep id hid (by cases hA : A id with | false => rfl | true => exact absurd (hab _ hA) (by simp [hB])), h.born⟩


theorem Rep.mono' {hp hp' : Heap} {imm imm' : Nat → Prop} {β β' : Beta} {H H' : NH} {A : Nat → Bool} (hm : ∀ b, imm b → imm' b ∧ ∀ k, cellAt hp' b k = cellAt hp b k)
    (hk : ∀ id, id < H.length → A id = false → id < H'.length ∧ Stays β H[id]? β' id ∧ Shape H[id]? H'[id]?) {x : NV} {y : Value} (h : Rep hp imm β H x y) :
    Rep hp' imm' β' H' (cleanV A x) y := by
  induction h with
  | p x y h => exact .p x y (h.mono' hm)
  | ptr id off l hid hl =>
    simp only [cleanV]
    cases hA : A id with
    | true => exact .junk _
    | false =>
      obtain ⟨h1, h2, _⟩ := hk id hid hA
      exact .ptr id off l h1 (h2.some hl)
  | pe id i j l T rw sz n get ho hi hl =>
    simp only [cleanV]
    cases hA : A id with
    | true => exact .junk _
    | false =>
      obtain ⟨h1, h2, h3⟩ := hk id (List.getElem?_eq_some_iff.1 ho).1 hA
      rw [ho] at h3
      obtain ⟨rw', get', h3⟩ := h3
      exact .pe id i j l T rw' sz n get' h3 hi (h2.some hl)
  | full0 id a hid hl =>
    simp only [cleanV]
    cases hA : A id with
    | true => exact .junk _
    | false =>
      obtain ⟨h1, h2, h3⟩ := hk id hid.lt hA
      exact .full0 id a (hid.shape h3) (h2.nil hl hid)
  | fullP id l T rw sz n get c ho hc hk' hl =>
    simp only [cleanV]
    cases hA : A id with
    | true => exact .junk _
    | false =>
      obtain ⟨h1, h2, h3⟩ := hk id (List.getElem?_eq_some_iff.1 ho).1 hA
      rw [ho] at h3
      obtain ⟨rw', get', h3⟩ := h3
      exact .fullP id l T rw' sz n get' c h3 hc hk' (h2.some hl)
  | fullR id l T sz cells c ho hc hk' hl =>
    simp only [cleanV]
    cases hA : A id with
    | true => exact .junk _
    | false =>
      obtain ⟨h1, h2, h3⟩ := hk id (List.getElem?_eq_some_iff.1 ho).1 hA
      rw [ho] at h3
      obtain ⟨cells', h3, hle⟩ := h3
      rw [← hle]; exact .fullR id l T sz cells' c h3 (by rw [hle]; exact hc) hk' (h2.some hl)
  | partP id off len e l T rw sz n get c ho hn hc he hl =>
    simp only [cleanV]
    cases hA : A id with
    | true => exact .junk _
    | false =>
      obtain ⟨h1, h2, h3⟩ := hk id (List.getElem?_eq_some_iff.1 ho).1 hA
      rw [ho] at h3
      obtain ⟨rw', get', h3⟩ := h3
      exact .partP id off len e l T rw' sz n get' c h3 hn hc he (h2.some hl)
  | partR id off len e l T sz cells c ho hn hc he hl =>
    simp only [cleanV]
    cases hA : A id with
    | true => exact .junk _
    | false =>
      obtain ⟨h1, h2, h3⟩ := hk id (List.getElem?_eq_some_iff.1 ho).1 hA
      rw [ho] at h3
      obtain ⟨cells', h3, hle⟩ := h3
      exact .partR id off len e l T sz cells' c h3 (by rw [hle]; exact hn) hc he (h2.some hl)
  | part0 id off e a hid =>
    simp only [cleanV]
    cases hA : A id with
    | true => exact .junk _
    | false =>
      obtain ⟨h1, h2, _⟩ := hk id hid hA
      exact .part0 id off e a h1
  | xsl sz n get a h => exact .xsl sz n get a (h.mono' hm)
  | vp cells b o hi h =>
    refine .vp cells b o (hm b hi).1 fun j x hx => ?_
    obtain ⟨y, hy, h1, h2⟩ := h j x hx
    refine ⟨y, ?_, h1, h2.mono' hm⟩
    rw [(hm b hi).2]; exact hy
  | map id l hid hl =>
    simp only [cleanV]
    cases hA : A id with
    | true => exact .junk _
    | false =>
      obtain ⟨h1, h2, _⟩ := hk id hid hA
      exact .map id l h1 (h2.some hl)
  | yld id l hid hl =>
    simp only [cleanV]
    cases hA : A id with
    | true => exact .junk _
    | false =>
      obtain ⟨h1, h2, _⟩ := hk id hid hA
      exact .yld id l h1 (h2.some hl)
  | fn f xs xs' ys ys' hl hl' h h' ih ih' =>
    simp only [cleanV, cleanL_eq]
    refine .fn f _ _ ys ys' (by simpa using hl) (by simpa using hl') (fun i x y hx hy => ?_) (fun i x y hx hy => ?_)
    · rw [List.getElem?_map, Option.map_eq_some_iff] at hx
      obtain ⟨x0, hx, rfl⟩ := hx
      exact ih i x0 y hx hy
    · rw [List.getElem?_map, Option.map_eq_some_iff] at hx
      obtain ⟨x0, hx, rfl⟩ := hx
      exact ih' i x0 y hx hy
  | agg xs ys hl h ih =>
    simp only [cleanV, cleanL_eq]
    refine .agg _ ys (by simpa using hl) (fun i x y hx hy => ?_)
    rw [List.getElem?_map, Option.map_eq_some_iff] at hx
    obtain ⟨x0, hx, rfl⟩ := hx
    exact ih i x0 y hx hy
  | tup xs ys hl h ih =>
    simp only [cleanV, cleanL_eq]
    refine .tup _ ys (by simpa using hl) (fun i x y hx hy => ?_)
    rw [List.getElem?_map, Option.map_eq_some_iff] at hx
    obtain ⟨x0, hx, rfl⟩ := hx
    exact ih i x0 y hx hy
  | junk y => exact .junk y

theorem Rep.mono {hp hp' : Heap} {imm imm' : Nat → Prop} {β β' : Beta} {H H' : NH} {A : Nat → Bool} (hm : ∀ b, imm b → imm' b ∧ hp'[b]? = hp[b]?)
    (hk : ∀ id, id < H.length → A id = false → id < H'.length ∧ Stays β H[id]? β' id ∧ Shape H[id]? H'[id]?) {x : NV} {y : Value} (h : Rep hp imm β H x y) :
    Rep hp' imm' β' H' (cleanV A x) y := h.mono' (cells_of hm) hk

mutual
theorem cleanV_none (x : NV) : cleanV (fun _ => false) x = x := by
  cases x with
  | fn f a b => simp [cleanV, cleanL_none a, cleanL_none b]
  | agg xs => simp [cleanV, cleanL_none xs]
  | tup xs => simp [cleanV, cleanL_none xs]
  | _ => simp [cleanV]
theorem cleanL_none (xs : List NV) : cleanL (fun _ => false) xs = xs := by
  cases xs with
  | nil => rfl
  | cons x xs => simp [cleanL, cleanV_none x, cleanL_none xs]
end
theorem cleanO_none (o : NO) : cleanO (fun _ => false) o = o := by cases o <;> simp [cleanO, cleanL_none]

theorem Good.rep {hp hp' : Heap} {β β' : Beta} {H H' : NH} {A : Nat → Bool} (g : Good hp β H hp' β' H' A) {x : NV} {y : Value} (h : Rep hp (Imm hp β H) β H x y) :
    Rep hp' (Imm hp' β' H') β' H' (cleanV A x) y := h.mono g.ext.imm g.keep
theorem Good.rep0 {hp hp' : Heap} {β β' : Beta} {H H' : NH} (g : Good hp β H hp' β' H' (fun _ => false)) {x : NV} {y : Value} (h : Rep hp (Imm hp β H) β H x y) :
    Rep hp' (Imm hp' β' H') β' H' x y := by have := g.rep h; rwa [cleanV_none] at this

theorem ObjAt.mono' {hp hp' : Heap} {imm imm' : Nat → Prop} {β β' : Beta} {H H' : NH} {A : Nat → Bool} (hm : ∀ b, imm b → imm' b ∧ ∀ k, cellAt hp' b k = cellAt hp b k)
    (hk : ∀ id, id < H.length → A id = false → id < H'.length ∧ Stays β H[id]? β' id ∧ Shape H[id]? H'[id]?) {l : Loc} {o : NO}
    (hc : o.alive = true → hp'[l.b]? = hp[l.b]?) (h : ObjAt hp imm β H l o) : ObjAt hp' imm' β' H' l (cleanO A o) := by
  cases o with
  | row T sz cells =>
    obtain ⟨c, fr, h1, h2, h3, h4, h5, h6⟩ := h
    refine ⟨c, fr, by rw [hc rfl]; exact h1, h2, ?_, h4, by simpa [cleanL_eq] using h5, fun k x y hx hy => ?_⟩
    · simpa [cleanL_eq] using h3
    · rw [cleanL_eq, List.getElem?_map, Option.map_eq_some_iff] at hx
      obtain ⟨x0, hx, rfl⟩ := hx
      exact ⟨(h6 k x0 y hx hy).1, (h6 k x0 y hx hy).2.mono' hm hk⟩
  | prow T rw' sz n get =>
    obtain ⟨c, fr, h1, h2, h3, h4, h5⟩ := h
    exact ⟨c, fr, by rw [hc rfl]; exact h1, h2, h3, h4, fun i hi => ⟨(h5 i hi).1, fun j x y hx hy => ⟨((h5 i hi).2 j x y hx hy).1, ((h5 i hi).2 j x y hx hy).2.mono' hm⟩⟩⟩
  | map es =>
    obtain ⟨me, clock, h1, h2, h3, h4⟩ := h
    exact ⟨me, clock, by rw [hc rfl]; exact h1, h2, fun i k x e hx he => ⟨(h3 i k x e hx he).1, (h3 i k x e hx he).2.mono' hm⟩, h4⟩
  | loop t ps assign body st pend =>
    obtain ⟨fn, tmps, d, h1, h2, h3⟩ := h
    refine ⟨fn, tmps, d, by rw [hc rfl]; exact h1, by simpa [cleanL_eq] using h2, fun k x y hx hy => ?_⟩
    rw [cleanL_eq, List.getElem?_map, Option.map_eq_some_iff] at hx
    obtain ⟨x0, hx, rfl⟩ := hx
    exact (h3 k x0 y hx hy).mono' hm hk
  | dead => trivial
theorem ObjNil.clean {A : Nat → Bool} {o : NO} (h : ObjNil o) : ObjNil (cleanO A o) := by
  cases o with
  | row T sz cells => obtain ⟨rfl, h2⟩ := h; exact ⟨rfl, h2⟩
  | _ => exact h
theorem ObjRep.mono' {hp hp' : Heap} {imm imm' : Nat → Prop} {β β' : Beta} {H H' : NH} {A : Nat → Bool} (hm : ∀ b, imm b → imm' b ∧ ∀ k, cellAt hp' b k = cellAt hp b k)
    (hk : ∀ id, id < H.length → A id = false → id < H'.length ∧ Stays β H[id]? β' id ∧ Shape H[id]? H'[id]?) {id : Nat} {o : NO} (hb : β' id = β id)
    (hc : o.alive = true → ∀ l, β id = some l → hp'[l.b]? = hp[l.b]?) (h : ObjRep hp imm β H id o) : ObjRep hp' imm' β' H' id (cleanO A o) := by
  unfold ObjRep at h ⊢
  rw [hb]
  cases hl : β id with
  | none => rw [hl] at h; exact h.clean
  | some l => rw [hl] at h; exact h.mono' hm hk (fun ha => hc ha l hl)

theorem ObjRep.mono {hp hp' : Heap} {imm imm' : Nat → Prop} {β β' : Beta} {H H' : NH} {A : Nat → Bool} (hm : ∀ b, imm b → imm' b ∧ hp'[b]? = hp[b]?)
    (hk : ∀ id, id < H.length → A id = false → id < H'.length ∧ Stays β H[id]? β' id ∧ Shape H[id]? H'[id]?) {id : Nat} {o : NO} (hb : β' id = β id)
    (hc : o.alive = true → ∀ l, β id = some l → hp'[l.b]? = hp[l.b]?) (h : ObjRep hp imm β H id o) : ObjRep hp' imm' β' H' id (cleanO A o) :=
  h.mono' (cells_of hm) hk hb hc

/-- The block of what is alive lies in memory. -/
theorem ObjAt.lt {hp : Heap} {imm : Nat → Prop} {β : Beta} {H : NH} {l : Loc} {o : NO} (h : ObjAt hp imm β H l o) (ha : o.alive = true) : l.b < hp.size := by
  cases o with
  | row T sz cells => obtain ⟨c, fr, h1, _⟩ := h; exact (Array.getElem?_eq_some_iff.1 h1).1
  | prow T rw' sz n get => obtain ⟨c, fr, h1, _⟩ := h; exact (Array.getElem?_eq_some_iff.1 h1).1
  | map es => obtain ⟨me, clock, h1, _⟩ := h; exact (Array.getElem?_eq_some_iff.1 h1).1
  | loop => obtain ⟨fn, tmps, d, h1, _⟩ := h; exact (Array.getElem?_eq_some_iff.1 h1).1
  | dead => cases ha
theorem ObjRep.at {hp : Heap} {imm : Nat → Prop} {β : Beta} {H : NH} {id : Nat} {o : NO} (h : ObjRep hp imm β H id o) {l : Loc} (hl : β id = some l) : ObjAt hp imm β H l o := by
  unfold ObjRep at h; rw [hl] at h; exact h
theorem ObjRep.mk {hp : Heap} {imm : Nat → Prop} {β : Beta} {H : NH} {id : Nat} {o : NO} {l : Loc} (hl : β id = some l) (h : ObjAt hp imm β H l o) : ObjRep hp imm β H id o := by
  unfold ObjRep; rw [hl]; exact h
theorem ObjRep.mkNil {hp : Heap} {imm : Nat → Prop} {β : Beta} {H : NH} {id : Nat} {o : NO} (hl : β id = none) (h : ObjNil o) : ObjRep hp imm β H id o := by
  unfold ObjRep; rw [hl]; exact h
theorem owned_alive {o : NO} (h : o.owned = true) : o.alive = true := by cases o <;> simp_all [NO.owned, NO.alive]
theorem St.lt {hp : Heap} {β : Beta} {H : NH} (h : St hp β H) {id : Nat} {o : NO} (ho : H[id]? = some o) (ha : o.alive = true) {l : Loc} (hl : β id = some l) : l.b < hp.size :=
  ((h.obj id o ho).at hl).lt ha
theorem Own.lt {hp : Heap} {β : Beta} {H : NH} (h : St hp β H) {b : Nat} (hb : Own β H b) : b < hp.size := by
  obtain ⟨id, o, l, ho, hw, hl, rfl⟩ := hb
  exact h.lt ho (owned_alive hw) hl
end Go.Proofs.Eng
