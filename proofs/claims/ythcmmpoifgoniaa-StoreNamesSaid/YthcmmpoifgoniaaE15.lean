/- The engine, part 15: new objects; what is stored. -/
import Derived.Test.YthcmmpoifgoniaaE14
set_option linter.unusedVariables false
set_option linter.unusedSimpArgs false
namespace Go.Proofs.Eng

/-- The world, its memory another one. -/
def atHeap (W : World) (hp : Heap) : World := { W with heap := hp }
/-- What no operation turns. -/
structure Same (W W' : World) : Prop where
  os : W'.os = W.os
  tape : W'.tape = W.tape
  output : W'.output = W.output
theorem Same.refl (W : World) : Same W W := ⟨rfl, rfl, rfl⟩
theorem Same.trans {W W' W'' : World} (h : Same W W') (h' : Same W' W'') : Same W W'' := ⟨h'.os.trans h.os, h'.tape.trans h.tape, h'.output.trans h.output⟩
theorem Same.atHeap (W : World) (hp : Heap) : Same W (atHeap W hp) := ⟨rfl, rfl, rfl⟩

/-- Some cells of a block are others. -/
def setMany (cs : Array Value) (k : Nat) (vs : List Value) : Array Value := (vs.zipIdx 0).foldl (fun cs (c, j) => cs.setIfInBounds (k + j) c) cs
theorem setMany_size {cs : Array Value} {k : Nat} {vs : List Value} (h : k + vs.length ≤ cs.size) : (setMany cs k vs).size = cs.size := (foldl_set vs 0 cs k (by omega)).1
theorem setMany_get {cs : Array Value} {k : Nat} {vs : List Value} (h : k + vs.length ≤ cs.size) (i : Nat) : (setMany cs k vs)[i]? = if k ≤ i ∧ i < k + vs.length then vs[i - k]? else cs[i]? := by
  have := (foldl_set vs 0 cs k (by omega)).2 i
  simpa [setMany] using this
theorem setMany_cons (cs : Array Value) (k : Nat) (v : Value) (vs : List Value) (h : k + (v :: vs).length ≤ cs.size) : setMany (cs.setIfInBounds k v) (k + 1) vs = setMany cs k (v :: vs) := by
  have h' : k + 1 + vs.length ≤ cs.size := by simp at h; omega
  apply Array.ext_getElem?
  intro i
  rw [setMany_get (by simpa using h'), setMany_get h]
  by_cases hi : i = k
  · subst hi
    rw [if_neg (by omega), if_pos (by simp)]
    rw [Array.getElem?_setIfInBounds_self_of_lt (by simp at h; omega)]
    simp
  · rw [Array.getElem?_setIfInBounds_ne (Ne.symm hi)]
    by_cases hc : k + 1 ≤ i ∧ i < k + 1 + vs.length
    · rw [if_pos hc, if_pos (by simp; omega), show i - k = (i - (k + 1)) + 1 by omega, List.getElem?_cons_succ]
    · rw [if_neg hc, if_neg (by simp only [List.length_cons]; omega)]
theorem setCell_eq {W : World} {b k : Nat} {v : Value} {cs : Array Value} {T : TypeId} {fr : Nat × Nat} (h : W.heap[b]? = some (.cells cs T fr)) :
    W.setCell ⟨b, k, none⟩ v = atHeap W (W.heap.setIfInBounds b (.cells (cs.setIfInBounds k v) T fr)) := by
  have hb := (Array.getElem?_eq_some_iff.1 h).1
  unfold World.setCell atHeap
  congr 1
  apply Array.ext_getElem?
  intro i
  rw [Array.getElem?_modify]
  by_cases hi : b = i
  · subst hi
    rw [if_pos rfl, h, Array.getElem?_setIfInBounds_self_of_lt hb]
    simp
  · rw [if_neg hi, Array.getElem?_setIfInBounds_ne hi]
theorem frozen_eq {W : World} {b k : Nat} {cs : Array Value} {T : TypeId} {fr : Nat × Nat} (h : W.heap[b]? = some (.cells cs T fr)) (hf : Unfrozen cs fr) (hk : k < cs.size) : W.frozen? ⟨b, k, none⟩ = false := by
  simp only [World.frozen?, h]
  have := hf k hk
  simp only [Bool.and_eq_false_iff, decide_eq_false_iff_not]
  omega
theorem storeCells_run {P : Program} (vs : List Value) : ∀ (W : World) (b o i : Nat) (cs : Array Value) (T : TypeId) (fr : Nat × Nat), W.heap[b]? = some (.cells cs T fr) → Unfrozen cs fr →
    o + i + vs.length ≤ cs.size → (∀ v ∈ vs, v.oneCell' = true) → (storeCells ⟨b, o, none⟩ vs i).run P W = .ok () (atHeap W (W.heap.setIfInBounds b (.cells (setMany cs (o + i) vs) T fr))) := by
  induction vs with
  | nil =>
    intro W b o i cs T fr h hf hl hv
    have hb := (Array.getElem?_eq_some_iff.1 h)
    simp only [storeCells, Sem.run_pure]
    congr 1
    unfold atHeap
    have : W.heap.setIfInBounds b (.cells (setMany cs (o + i) []) T fr) = W.heap := by
      apply Array.ext_getElem?
      intro j
      by_cases hj : b = j
      · subst hj
        rw [Array.getElem?_setIfInBounds_self_of_lt hb.1, h]
        rfl
      · rw [Array.getElem?_setIfInBounds_ne hj]
    rw [this]
  | cons v vs ih =>
    intro W b o i cs T fr h hf hl hv
    simp only [List.length_cons] at hl
    have hb := (Array.getElem?_eq_some_iff.1 h).1
    have hlt : o + i < cs.size := by omega
    have hcell : W.cell? ⟨b, o + i, none⟩ = some cs[o + i] := by
      rw [cell?_eq]; simp only [cellAt, h]; exact Array.getElem?_eq_getElem hlt
    have h1 : (store ((⟨b, o, none⟩ : Addr).add i) v).run P W = .ok () (atHeap W (W.heap.setIfInBounds b (.cells (cs.setIfInBounds (o + i) v) T fr))) := by
      rw [add_plain', run_store P W _ v .plain (hv v (by simp)), hcell]
      simp only [frozen_eq h hf hlt, Bool.false_eq_true, if_false]
      rw [setCell_eq h]
    have h2 := ih (atHeap W (W.heap.setIfInBounds b (.cells (cs.setIfInBounds (o + i) v) T fr))) b o (i + 1) (cs.setIfInBounds (o + i) v) T fr
      (by simp only [atHeap]; rw [Array.getElem?_setIfInBounds_self_of_lt hb]) (fun k hk => hf k (by simpa using hk)) (by simp; omega) (fun v' hv' => hv v' (by simp [hv']))
    simp only [storeCells, Sem.run_bind, h1, Result.andThen_ok, h2]
    congr 1
    unfold atHeap
    simp only
    congr 1
    rw [Array.setIfInBounds_setIfInBounds, show o + (i + 1) = o + i + 1 by omega, setMany_cons cs (o + i) v vs (by simp; omega)]

section
variable {β : Beta} {H : NH} {P : Program} {W : World}

/-- What a step comes to. -/
structure Step (β : Beta) (H : NH) (W : World) (β' : Beta) (H' : NH) (W' : World) (A : Nat → Bool) : Prop where
  st : St W'.heap β' H'
  good : Good W.heap β H W'.heap β' H' A
  same : Same W W'
theorem Step.rep {β' : Beta} {H' : NH} {W' : World} {A : Nat → Bool} (h : Step β H W β' H' W' A) {x : NV} {y : Value} (hx : (Rep W.heap (Imm W.heap β H) β H) x y) :
    Rep W'.heap (Imm W'.heap β' H') β' H' (cleanV A x) y := h.good.rep hx
theorem Step.rep0 {β' : Beta} {H' : NH} {W' : World} (h : Step β H W β' H' W' none?) {x : NV} {y : Value} (hx : (Rep W.heap (Imm W.heap β H) β H) x y) :
    Rep W'.heap (Imm W'.heap β' H') β' H' x y := h.good.rep0 hx
theorem Step.trans {β' β'' : Beta} {H' H'' : NH} {W' W'' : World} {A B : Nat → Bool} (h : Step β H W β' H' W' A) (h' : Step β' H' W' β'' H'' W'' B) : Step β H W β'' H'' W'' (fun i => A i || B i) :=
  ⟨h'.st, h.good.trans h'.good, h.same.trans h'.same⟩
theorem Step.trans0 {β' β'' : Beta} {H' H'' : NH} {W' W'' : World} {B : Nat → Bool} (h : Step β H W β' H' W' none?) (h' : Step β' H' W' β'' H'' W'' B) : Step β H W β'' H'' W'' B := by
  have := h.trans h'
  simpa [none?] using this
theorem Step.refl (h : St W.heap β H) : Step β H W β H W none? := ⟨h, Good.refl _ _ _, Same.refl _⟩

/-- A new block is a new object. -/
theorem Step.alloc (h : St W.heap β H) (obj : Obj) (o : NO) (k : Nat)
    (ho : ∀ β' H' , β' = upd β H.length (some ⟨W.heap.size, 0, k⟩) → H' = H ++ [o] → Good W.heap β H (W.heap.push obj) β' H' none? → ObjAt (W.heap.push obj) (Imm (W.heap.push obj) β' H') β' H' ⟨W.heap.size, 0, k⟩ o) :
    Step β H W (upd β H.length (some ⟨W.heap.size, 0, k⟩)) (H ++ [o]) (atHeap W (W.heap.push obj)) none? := by
  -- that the step is good does not hang on what the object is
  have g : Good W.heap β H (W.heap.push obj) (upd β H.length (some ⟨W.heap.size, 0, k⟩)) (H ++ [o]) none? := by
    refine ⟨⟨?_, by simp⟩, fun id hid _ => ⟨by simp; omega, .inl (upd_ne (by omega)), by rw [List.getElem?_append_left hid]; exact Shape.refl _⟩, fun id q l h1 h2 h3 => ?_⟩
    case refine_2 =>
      by_cases he : id = H.length
      · subst he; rw [upd_self] at h3; cases h3; exact .inr fun hi => Nat.lt_irrefl _ hi.1
      · rw [upd_ne he] at h3
        have hlt : id < H.length := by have := (List.getElem?_eq_some_iff.1 h1).1; simp at this; omega
        rw [List.getElem?_append_left hlt] at h1
        exact .inl ⟨q, h1, h2, h3⟩
    rintro b ⟨hb, hn⟩
    refine ⟨⟨by simp; omega, ?_⟩, by rw [Array.getElem?_push, if_neg (by omega)]⟩
    rintro ⟨id, q, x, hi, hw, hx, rfl⟩
    by_cases he : id = H.length
    · subst he; rw [upd_self] at hx; cases hx; simp at hb
    · rw [upd_ne he] at hx
      have hlt : id < H.length := by have := (List.getElem?_eq_some_iff.1 hi).1; simp at this; omega
      rw [List.getElem?_append_left hlt] at hi
      exact hn ⟨id, q, x, hi, hw, hx, rfl⟩
  obtain ⟨s1, s2⟩ := h.new (hp' := W.heap.push obj) o (some ⟨W.heap.size, 0, k⟩) (by simp) (fun b hb => by rw [Array.getElem?_push, if_neg (by omega)]) (fun x hx => by cases hx; exact Nat.le_refl _)
    (.mk (upd_self _ _ _) (ho _ _ rfl rfl g))
  exact ⟨s1, s2, Same.atHeap _ _⟩
/-- An empty row that lies nowhere. -/
theorem Step.ghost (h : St W.heap β H) (o : NO) (ho : ObjNil o) : Step β H W (upd β H.length none) (H ++ [o]) W none? := by
  obtain ⟨s1, s2⟩ := h.new (hp' := W.heap) o none (Nat.le_refl _) (fun _ _ => rfl) (fun x hx => by cases hx) (.mkNil (upd_self _ _ _) ho)
  exact ⟨s1, s2, Same.refl _⟩
theorem unfrozen0 (c : Array Value) : Unfrozen c (0, 0) := fun k _ => by simp
/-- Cells that read as: a new row. -/
theorem Step.newRow (h : St W.heap β H) {T : TypeId} {sz : Nat} {cs : List NV} {c : Array Value} (hc : RepC W.heap (Imm W.heap β H) β H cs c) (h0 : 0 < sz) (hd : sz ∣ cs.length) :
    Step β H W (upd β H.length (some ⟨W.heap.size, 0, cs.length / sz⟩)) (H ++ [.row T sz cs]) (atHeap W (W.heap.push (.cells c T))) none? := by
  refine Step.alloc h _ _ _ fun β' H' e1 e2 g => ?_
  refine ⟨c, (0, 0), by simp, unfrozen0 c, ⟨by rw [Nat.div_mul_cancel hd]; exact Nat.le_refl _, by simp only [Nat.zero_add, Nat.div_mul_cancel hd, hc.1]; exact Nat.le_refl _⟩, h0, hd, fun k x y hx hy => ?_⟩
  simp only [Nat.zero_add] at hy
  obtain ⟨q1, q2⟩ := hc.2 k x y hx hy
  exact ⟨q1, g.rep0 q2⟩
theorem newRow_ptr {T : TypeId} {sz : Nat} {cs : List NV} {c : Array Value} {k : Nat} {imm : Nat → Prop} (n : Nat) :
    Rep (W.heap.push (.cells c T)) imm (upd β H.length (some ⟨W.heap.size, 0, k⟩)) (H ++ [.row T sz cs]) (.ptr H.length 0) (.pointer (some ⟨W.heap.size, 0, none⟩)) :=
  .ptr _ 0 ⟨W.heap.size, 0, k⟩ (by simp) (upd_self _ _ _)
end
end Go.Proofs.Eng
