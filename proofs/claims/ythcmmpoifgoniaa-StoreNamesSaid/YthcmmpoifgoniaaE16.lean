/- The engine, part 16: boxes, stores, values without references. -/
import Derived.Test.YthcmmpoifgoniaaE15
set_option linter.unusedVariables false
set_option linter.unusedSimpArgs false
namespace Go.Proofs.Eng

def allocN (P : Program) (H : NH) (T : TypeId) : Option (NV × NH) :=
  match zeroCells P T, tySz P T with
  | some z, some s => if z.all oneN = true ∧ z.length = s ∧ 0 < s then some (.ptr H.length 0, H ++ [.row T s z]) else none
  | _, _ => none
def boxN (P : Program) (H : NH) (T : TypeId) (x : NV) : Option (NV × NH) :=
  match cellsN x, tySz P T with
  | some cs, some s => if cs.length = s ∧ 0 < s then some (.ptr H.length 0, H ++ [.row T s cs]) else none
  | _, _ => none
/-- A value without references; the rows that it is made of are written to no more. -/
def purV (H : NH) : NV → Option (VV × NH)
  | .p v => some (v, H)
  | .xsl sz n get => some (.sl sz n get, H)
  | .full id =>
    match H[id]? with
    | some (.prow T _ sz n get) => some (.sl sz n get, H.set id (.prow T false sz n get))
    | _ => none
  | .part id off len _ =>
    match H[id]? with
    | some (.prow T _ sz n get) => some (.sl sz len fun i => get (off + i), H.set id (.prow T false sz n get))
    | _ => none
  | _ => none
def purL (H : NH) : List NV → Option (List VV × NH)
  | [] => some ([], H)
  | x :: xs =>
    match purV H x with
    | some (v, H1) => match purL H1 xs with
      | some (vs, H2) => some (v :: vs, H2)
      | none => none
    | none => none
/-- Element i is another one. -/
def setG (get : Nat → List VV) (i : Nat) (v : List VV) : Nat → List VV := fun k => if k = i then v else get k
def spliceV (cs : List VV) (j : Nat) (vs : List VV) : List VV := if j = 0 ∧ vs.length = cs.length then vs else cs.take j ++ vs ++ cs.drop (j + vs.length)
def storeN (P : Program) (H : NH) (T : TypeId) (addr x : NV) : Option NH :=
  match cellsN x, tySz P T with
  | some cs, some s =>
    if cs.length = s then
      match addr with
      | .ptr id off =>
        match H[id]? with
        | some (.row T' sz cells) => if off + s ≤ cells.length then some (H.set id (.row T' sz (splice cells off cs))) else none
        | _ => none
      | .pe id i j =>
        match purL H cs with
        | some (vs, H1) =>
          match H1[id]? with
          | some (.prow T' true sz n get) =>
            if j = 0 ∧ s = sz then some (H1.set id (.prow T' true sz n (setG get i vs)))
            else if j + s ≤ sz then some (H1.set id (.prow T' true sz n (setG get i ((get i).take j ++ vs ++ (get i).drop (j + s))))) else none
          | _ => none
        | none => none
      | _ => none
    else none
  | _, _ => none

section
variable {β : Beta} {H : NH} {P : Program} {W : World}

theorem zeroCells_inv {T : TypeId} {z : List NV} (h : zeroCells P T = some z) : ∃ i v, P.info? T = some i ∧ i.zero = some v ∧ z = v.cells.toList.map fun c => NV.p (.v c) := by
  unfold zeroCells at h
  rw [Option.bind_eq_some_iff] at h
  obtain ⟨i, h1, h2⟩ := h
  rw [Option.map_eq_some_iff] at h2
  obtain ⟨v, h2, h3⟩ := h2
  exact ⟨i, v, h1, h2, h3.symm⟩
theorem allocN_run {T : TypeId} {r : NV} {H' : NH} (hst : St W.heap β H) (h : allocN P H T = some (r, H')) :
    ∃ v W' β', (Instr.alloc T true (.tuple #[])).run P W = .ok v W' ∧ Step β H W β' H' W' none? ∧ Rep W'.heap (Imm W'.heap β' H') β' H' r v := by
  unfold allocN at h
  split at h
  · rename_i z s hz hs
    split at h
    · rename_i hc
      cases h
      obtain ⟨i, v, h1, h2, rfl⟩ := zeroCells_inv hz
      have hR : RepC W.heap (Imm W.heap β H) β H (v.cells.toList.map fun c => NV.p (.v c)) v.cells := by simpa using zero_repC (hp := W.heap) (imm := Imm W.heap β H) (β := β) (H := H) hc.1
      have hst' := Step.newRow (T := T) (sz := s) hst hR hc.2.2 (by rw [hc.2.1]; exact Nat.dvd_refl _)
      refine ⟨_, _, _, ?_, hst', newRow_ptr 0⟩
      simp [Instr.alloc, zeroValue, typeInfo, h1, h2, newVar, newRow, atHeap]
    · cases h
  · cases h
theorem boxN_run {T : TypeId} {x r : NV} {a : Value} {H' : NH} (hst : St W.heap β H) (h : boxN P H T x = some (r, H')) (hx : (Rep W.heap (Imm W.heap β H) β H) x a) :
    ∃ v W' β', (Instr.box T a).run P W = .ok v W' ∧ Step β H W β' H' W' none? ∧ Rep W'.heap (Imm W'.heap β' H') β' H' r v := by
  unfold boxN at h
  split at h
  · rename_i cs s hcs hs
    split at h
    · rename_i hc
      cases h
      have hst' := Step.newRow (T := T) (sz := s) hst (hx.cells hcs) hc.2 (by rw [hc.1]; exact Nat.dvd_refl _)
      refine ⟨_, _, _, ?_, hst', newRow_ptr 0⟩
      simp [Instr.box, newVar, newRow, atHeap]
    · cases h
  · cases h

/-- What nobody writes to is a slice. -/
theorem obj_sl {id : Nat} {T : TypeId} {rw' : Bool} {sz n off len c : Nat} {get : Nat → List VV} {l : Loc} (hst : St W.heap β H) (ho : H[id]? = some (.prow T rw' sz n get)) (hl : β id = some l)
    (himm : Imm W.heap β H l.b) (hn : off + len ≤ n) (hc : len ≤ c) : PV W.heap (Imm W.heap β H) (.sl sz len fun i => get (off + i)) (.slice (some (slot l (off * sz))) len c) := by
  obtain ⟨cs, fr, h1, h2, h3, h4, h5⟩ := (hst.obj id _ ho).at hl
  have hcell : ∀ i, i < len → ∀ j, j < sz → ∃ y, cs[l.o + ((off + i) * sz + j)]? = some y := fun i hi j hj => by
    have hb : l.o + ((off + i) * sz + j) < cs.size := by
      have : (off + i + 1) * sz ≤ n * sz := Nat.mul_le_mul_right _ (by omega)
      have h6 : n * sz ≤ l.k * sz := Nat.mul_le_mul_right _ h3.1
      rw [Nat.succ_mul] at this
      omega
    exact ⟨_, Array.getElem?_eq_getElem hb⟩
  refine .sl sz len _ l.b (l.o + off * sz) c (fun k => (cs[l.o + off * sz + k]?).getD undef) himm hc (fun i hi => (h5 (off + i) (by omega)).1) (fun k hk => ?_) (fun i hi j x hx => ?_)
  · have hi : k / sz < len := by rw [Nat.div_lt_iff_lt_mul h4]; exact hk
    have hj : k % sz < sz := Nat.mod_lt _ h4
    have hk' : k = k / sz * sz + k % sz := by rw [Nat.mul_comm]; exact (Nat.div_add_mod k sz).symm
    obtain ⟨y, hy⟩ := hcell _ hi _ hj
    obtain ⟨g1, g2⟩ := h5 (off + k / sz) (by omega)
    have he : l.o + off * sz + k = l.o + ((off + k / sz) * sz + k % sz) := by rw [Nat.add_mul]; omega
    have hx := g2 (k % sz) ((get (off + k / sz))[k % sz]'(by omega)) y (List.getElem?_eq_getElem _) hy
    simp only [cellAt, h1]
    rw [he, hy]
    exact ⟨rfl, hx.1⟩
  · have hj : j < sz := by rw [← (h5 (off + i) (by omega)).1]; exact (List.getElem?_eq_some_iff.1 hx).1
    obtain ⟨y, hy⟩ := hcell i hi j hj
    have he : l.o + off * sz + (i * sz + j) = l.o + ((off + i) * sz + j) := by rw [Nat.add_mul]; omega
    rw [he, hy]
    exact ((h5 (off + i) (by omega)).2 j x y hx hy).2
theorem Step.freeze {id : Nat} {T : TypeId} {rw' : Bool} {sz n : Nat} {get : Nat → List VV} (hst : St W.heap β H) (ho : H[id]? = some (.prow T rw' sz n get)) :
    Step β H W β (H.set id (.prow T false sz n get)) W none? := by
  obtain ⟨s1, s2⟩ := hst.freeze id T rw' sz n get ho
  exact ⟨s1, s2, Same.refl _⟩
theorem frozen_imm {id : Nat} {T : TypeId} {rw' : Bool} {sz n : Nat} {get : Nat → List VV} {l : Loc} (hst : St W.heap β H) (ho : H[id]? = some (.prow T rw' sz n get)) (hl : β id = some l) :
    Imm W.heap β (H.set id (.prow T false sz n get)) l.b := by
  have hlen := (List.getElem?_eq_some_iff.1 ho).1
  refine ⟨hst.lt ho rfl hl, ?_⟩
  rintro ⟨i, o, m, hi, hw, hm, he⟩
  by_cases h : i = id
  · subst h
    rw [List.getElem?_set_self hlen] at hi
    cases hi; cases hw
  · rw [List.getElem?_set_ne (Ne.symm h)] at hi
    exact hst.apart i id o _ hi ho h hw rfl m l hm hl he
theorem purV_run {x : NV} {v : VV} {a : Value} {H' : NH} (hst : St W.heap β H) (h : purV H x = some (v, H')) (hx : (Rep W.heap (Imm W.heap β H) β H) x a) :
    Step β H W β H' W none? ∧ PV W.heap (Imm W.heap β H') v a := by
  unfold purV at h
  split at h
  · cases h
    cases hx with | p _ _ hp => exact ⟨Step.refl hst, hp⟩
  · cases h
    cases hx with | xsl _ _ _ A hp => exact ⟨Step.refl hst, hp⟩
  · rename_i id
    split at h
    · rename_i T rw' sz n get ho
      cases h
      refine ⟨Step.freeze hst ho, ?_⟩
      have hst' := (Step.freeze hst ho).st
      rcases full_inv hst (by rw [ho]; rfl) hx with ⟨rfl, hl, A, rfl⟩ | ⟨l, c, hl, hc, hk, rfl⟩
      · exact .sl0 _ _ _ _
      · have := obj_sl (off := 0) (len := n) (c := c) hst' (List.getElem?_set_self (List.getElem?_eq_some_iff.1 ho).1) hl (frozen_imm hst ho hl) (by omega) hc
        simpa using this
    · cases h
  · rename_i id off len ex
    split at h
    · rename_i T rw' sz n get ho
      cases h
      refine ⟨Step.freeze hst ho, ?_⟩
      have hst' := (Step.freeze hst ho).st
      rcases part_inv (by rw [ho]; rfl) hx with ⟨rfl, A, rfl⟩ | ⟨l, c, hl, hn, hc, he, rfl⟩
      · exact .sl0 _ _ _ _
      · exact obj_sl hst' (List.getElem?_set_self (List.getElem?_eq_some_iff.1 ho).1) hl (frozen_imm hst ho hl) hn hc
    · cases h
  · cases h
theorem purL_run : ∀ (xs : List NV) (H : NH) (ys : Array Value) (vs : List VV) (H' : NH) (n : Nat), St W.heap β H → purL H xs = some (vs, H') → ys.size = n + xs.length →
    (∀ (i : Nat) (x : NV) (y : Value), xs[i]? = some x → ys[n + i]? = some y → Rep W.heap (Imm W.heap β H) β H x y) →
    Step β H W β H' W none? ∧ vs.length = xs.length ∧ ∀ (i : Nat) (v : VV) (y : Value), vs[i]? = some v → ys[n + i]? = some y → PV W.heap (Imm W.heap β H') v y := by
  intro xs
  induction xs with
  | nil =>
    intro H ys vs H' n hst h hl hr
    simp only [purL] at h
    cases h
    exact ⟨Step.refl hst, rfl, fun i v y hv => by simp at hv⟩
  | cons x xs ih =>
    intro H ys vs H' n hst h hl hr
    simp only [purL] at h
    split at h
    · rename_i v H1 hv
      split at h
      · rename_i vs' H2 hvs
        cases h
        simp only [List.length_cons] at hl
        have hy : ys[n + 0]? = some ys[n] := Array.getElem?_eq_getElem (by omega)
        obtain ⟨s1, p1⟩ := purV_run hst hv (hr 0 x _ rfl hy)
        obtain ⟨s2, l2, p2⟩ := ih H1 ys vs' _ (n + 1) s1.st hvs (by omega) (fun i x y hx hy => s1.rep0 (hr (i + 1) x y (by simpa using hx) (by rw [← hy]; congr 1; omega)))
        refine ⟨s1.trans0 s2, by simp [l2], fun i w y hw hy' => ?_⟩
        cases i with
        | zero =>
          simp only [List.getElem?_cons_zero] at hw
          cases hw
          rw [hy] at hy'
          cases hy'
          exact p1.mono s2.good.ext.imm
        | succ i => exact p2 i w y (by simpa using hw) (by rw [← hy']; congr 1; omega)
      · cases h
    · cases h
end
end Go.Proofs.Eng
