/- The engine, part 3: the steps that a state may take. -/
import Derived.Test.YthcmmpoifgoniaaE2
set_option linter.unusedVariables false
set_option linter.unusedSimpArgs false
namespace Go.Proofs.Eng

def none? : Nat → Bool := fun _ => false
def only (id : Nat) : Nat → Bool := fun i => i == id
def upd (β : Beta) (id : Nat) (l : Option Loc) : Beta := fun i => if i = id then l else β i
theorem upd_self (β : Beta) (id : Nat) (l : Option Loc) : upd β id l id = l := by simp [upd]
theorem upd_ne {β : Beta} {id i : Nat} {l : Option Loc} (h : i ≠ id) : upd β id l i = β i := by simp [upd, h]
def cleanH (A : Nat → Bool) (H : NH) : NH := H.map (cleanO A)
theorem cleanH_none (H : NH) : cleanH none? H = H := by
  unfold cleanH none?
  rw [show (cleanO fun _ => false) = id from funext fun o => cleanO_none o, List.map_id]
theorem cleanH_get (A : Nat → Bool) (H : NH) (i : Nat) : (cleanH A H)[i]? = H[i]?.map (cleanO A) := by simp [cleanH]
theorem cleanH_length (A : Nat → Bool) (H : NH) : (cleanH A H).length = H.length := by simp [cleanH]

/-- A new object: in a new block (or blocks: the first of what came), or nowhere. -/
theorem weak {A : Nat → Bool} {β β' : Beta} {H H' : NH} (h : ∀ id, id < H.length → A id = false → id < H'.length ∧ β' id = β id ∧ Shape H[id]? H'[id]?) :
    ∀ id, id < H.length → A id = false → id < H'.length ∧ Stays β H[id]? β' id ∧ Shape H[id]? H'[id]? :=
  fun id h1 h2 => ⟨(h id h1 h2).1, .inl (h id h1 h2).2.1, (h id h1 h2).2.2⟩
theorem St.new {hp hp' : Heap} {β : Beta} {H : NH} (h : St hp β H) (o' : NO) (l : Option Loc) (hsz : hp.size ≤ hp'.size) (hhp : ∀ b, b < hp.size → hp'[b]? = hp[b]?)
    (hl : ∀ x, l = some x → hp.size ≤ x.b)
    (ho : ObjRep hp' (Imm hp' (upd β H.length l) (H ++ [o'])) (upd β H.length l) (H ++ [o']) H.length o') :
    St hp' (upd β H.length l) (H ++ [o']) ∧ Good hp β H hp' (upd β H.length l) (H ++ [o']) none? := by
  have hget : ∀ (id : Nat) (o : NO), (H ++ [o'])[id]? = some o → (id < H.length ∧ H[id]? = some o) ∨ (id = H.length ∧ o = o') := by
    intro id o hi
    rcases Nat.lt_trichotomy id H.length with hlt | heq | hgt
    · rw [List.getElem?_append_left hlt] at hi; exact .inl ⟨hlt, hi⟩
    · subst heq; simp at hi; exact .inr ⟨rfl, hi.symm⟩
    · rw [List.getElem?_eq_none (by simp; omega)] at hi; cases hi
  have hβ : ∀ id, id < H.length → upd β H.length l id = β id := fun id hid => upd_ne (by omega)
  have himm : ∀ b, Imm hp β H b → Imm hp' (upd β H.length l) (H ++ [o']) b ∧ hp'[b]? = hp[b]? := by
    rintro b ⟨hb, hn⟩
    refine ⟨⟨Nat.lt_of_lt_of_le hb hsz, ?_⟩, hhp b hb⟩
    rintro ⟨id, o, x, hi, hw, hx, rfl⟩
    rcases hget id o hi with ⟨hlt, hi⟩ | ⟨rfl, rfl⟩
    · exact hn ⟨id, o, x, hi, hw, by rwa [hβ id hlt] at hx, rfl⟩
    · rw [upd_self] at hx; have := hl x hx; omega
  have hkeep : ∀ id, id < H.length → none? id = false → id < (H ++ [o']).length ∧ upd β H.length l id = β id ∧ Shape H[id]? (H ++ [o'])[id]? := by
    intro id hid _
    refine ⟨by simp; omega, hβ id hid, ?_⟩
    rw [List.getElem?_append_left hid]
    exact Shape.refl _
  have hborn : ∀ id o x, (H ++ [o'])[id]? = some o → o.alive = true → upd β H.length l id = some x → (∃ o0, H[id]? = some o0 ∧ o0.alive = true ∧ β id = some x) ∨ ¬ Imm hp β H x.b := by
    intro id o x h1 h2 h3
    rcases hget id o h1 with ⟨hlt, hi⟩ | ⟨rfl, rfl⟩
    · exact .inl ⟨o, hi, h2, by rwa [hβ id hlt] at h3⟩
    · rw [upd_self] at h3
      exact .inr fun hi => Nat.lt_irrefl _ (Nat.lt_of_lt_of_le hi.1 (hl x h3))
  refine ⟨⟨fun id o hi => ?_, fun id id' o1 o2 h1 h2 hne hw ha x x' hx hx' => ?_⟩, ⟨himm, hsz⟩, weak hkeep, hborn⟩
  · rcases hget id o hi with ⟨hlt', hi⟩ | ⟨rfl, rfl⟩
    · have := (h.obj id o hi).mono (A := none?) himm (weak hkeep) (hβ id hlt') (fun ha x hx => hhp _ (h.lt hi ha hx))
      rwa [show cleanO none? o = o from cleanO_none o] at this
    · exact ho
  · rcases hget id o1 h1 with ⟨l1, k1⟩ | ⟨e1, _⟩ <;> rcases hget id' o2 h2 with ⟨l2, k2⟩ | ⟨e2, _⟩
    · rw [hβ id l1] at hx; rw [hβ id' l2] at hx'; exact h.apart id id' o1 o2 k1 k2 hne hw ha x x' hx hx'
    · rw [hβ id l1] at hx; rw [e2, upd_self] at hx'
      have := h.lt k1 (owned_alive hw) hx
      have := hl x' hx'
      omega
    · rw [hβ id' l2] at hx'; rw [e1, upd_self] at hx
      have := h.lt k2 ha hx'
      have := hl x hx
      omega
    · exact absurd (e1.trans e2.symm) hne

/-- New blocks that are no object. -/
theorem St.grow {hp hp' : Heap} {β : Beta} {H : NH} (h : St hp β H) (hsz : hp.size ≤ hp'.size) (hhp : ∀ b, b < hp.size → hp'[b]? = hp[b]?) : St hp' β H ∧ Good hp β H hp' β H none? := by
  have himm : ∀ b, Imm hp β H b → Imm hp' β H b ∧ hp'[b]? = hp[b]? := by
    rintro b ⟨hb, hn⟩
    exact ⟨⟨Nat.lt_of_lt_of_le hb hsz, hn⟩, hhp b hb⟩
  have hkeep : ∀ id, id < H.length → none? id = false → id < H.length ∧ β id = β id ∧ Shape H[id]? H[id]? := fun id hid _ => ⟨hid, rfl, Shape.refl _⟩
  refine ⟨⟨fun id o hi => ?_, h.apart⟩, ⟨himm, hsz⟩, weak hkeep, fun id o l h1 h2 h3 => .inl ⟨o, h1, h2, h3⟩⟩
  have := (h.obj id o hi).mono (A := none?) himm (weak hkeep) rfl (fun ha x hx => hhp _ (h.lt hi ha hx))
  rwa [show cleanO none? o = o from cleanO_none o] at this

/-- An owned object is another one: in its block, or in a new one. -/
theorem St.put {hp hp' : Heap} {β : Beta} {H : NH} {A : Nat → Bool} (h : St hp β H) (id : Nat) (o o' : NO) (l' : Option Loc) (hid : H[id]? = some o) (hw : o.owned = true) (hw' : o'.owned = true)
    (hsz : hp.size ≤ hp'.size) (hhp : ∀ b, b < hp.size → (∀ l, β id = some l → l.b ≠ b) → hp'[b]? = hp[b]?)
    (hl' : ∀ x, l' = some x → hp.size ≤ x.b ∨ ∃ l, β id = some l ∧ l.b = x.b)
    (hA : ∀ i, A i = true → i = id) (hs : A id = false → l' = β id ∧ Shape (some o) (some o'))
    (ho : ObjRep hp' (Imm hp' (upd β id l') (cleanH A (H.set id o'))) (upd β id l') (cleanH A (H.set id o')) id (cleanO A o')) :
    St hp' (upd β id l') (cleanH A (H.set id o')) ∧ Good hp β H hp' (upd β id l') (cleanH A (H.set id o')) A := by
  have hlen : id < H.length := (List.getElem?_eq_some_iff.1 hid).1
  have hget : ∀ (i : Nat) (x : NO), (cleanH A (H.set id o'))[i]? = some x → (i = id ∧ x = cleanO A o') ∨ (i ≠ id ∧ ∃ x0, H[i]? = some x0 ∧ x = cleanO A x0) := by
    intro i x hx
    rw [cleanH_get, Option.map_eq_some_iff] at hx
    obtain ⟨x0, hx, rfl⟩ := hx
    by_cases hi : i = id
    · subst hi; rw [List.getElem?_set_self hlen] at hx; injection hx with hx; exact .inl ⟨rfl, by rw [hx]⟩
    · rw [List.getElem?_set_ne (Ne.symm hi)] at hx; exact .inr ⟨hi, x0, hx, rfl⟩
  have himm : ∀ b, Imm hp β H b → Imm hp' (upd β id l') (cleanH A (H.set id o')) b ∧ hp'[b]? = hp[b]? := by
    rintro b ⟨hb, hn⟩
    refine ⟨⟨Nat.lt_of_lt_of_le hb hsz, ?_⟩, hhp b hb fun l hl e => hn ⟨id, o, l, hid, hw, hl, e⟩⟩
    rintro ⟨i, x, m, hx, hxw, hm, rfl⟩
    rcases hget i x hx with ⟨rfl, rfl⟩ | ⟨hi, x0, hx0, rfl⟩
    · rw [upd_self] at hm
      rcases hl' m hm with h1 | ⟨l, h1, h2⟩
      · omega
      · exact hn ⟨i, o, l, hid, hw, h1, h2⟩
    · rw [upd_ne hi] at hm; exact hn ⟨i, x0, m, hx0, by rwa [cleanO_owned] at hxw, hm, rfl⟩
  have hkeep : ∀ i, i < H.length → A i = false → i < (cleanH A (H.set id o')).length ∧ upd β id l' i = β i ∧ Shape H[i]? (cleanH A (H.set id o'))[i]? := by
    intro i hi hAi
    refine ⟨by rw [cleanH_length, List.length_set]; exact hi, ?_, ?_⟩
    · by_cases he : i = id
      · subst he; rw [upd_self]; exact (hs hAi).1
      · exact upd_ne he
    · rw [cleanH_get]
      by_cases he : i = id
      · subst he
        rw [List.getElem?_set_self hlen, hid]
        exact (hs hAi).2.trans (Shape.clean A (some o'))
      · rw [List.getElem?_set_ne (Ne.symm he)]
        exact Shape.clean A _
  have hborn : ∀ i x m, (cleanH A (H.set id o'))[i]? = some x → x.alive = true → upd β id l' i = some m → (∃ o0, H[i]? = some o0 ∧ o0.alive = true ∧ β i = some m) ∨ ¬ Imm hp β H m.b := by
    intro i x m h1 h2 h3
    rcases hget i x h1 with ⟨rfl, rfl⟩ | ⟨hi, x0, hx0, rfl⟩
    · rw [upd_self] at h3
      rcases hl' m h3 with k1 | ⟨l, k1, k2⟩
      · exact .inr fun hi => Nat.lt_irrefl _ (Nat.lt_of_lt_of_le hi.1 k1)
      · exact .inr fun hi => hi.2 ⟨i, o, l, hid, hw, k1, k2⟩
    · rw [upd_ne hi] at h3
      exact .inl ⟨x0, hx0, by rwa [cleanO_alive] at h2, h3⟩
  refine ⟨⟨fun i x hx => ?_, fun i j x y hx hy hne hxw hya m m' hm hm' => ?_⟩, ⟨himm, hsz⟩, weak hkeep, hborn⟩
  · rcases hget i x hx with ⟨rfl, rfl⟩ | ⟨hi, x0, hx0, rfl⟩
    · exact ho
    · refine (h.obj i x0 hx0).mono himm (weak hkeep) (upd_ne hi) fun ha m hm => hhp _ (h.lt hx0 ha hm) fun l hl => ?_
      exact h.apart id i o x0 hid hx0 (Ne.symm hi) hw ha l m hl hm
  · rcases hget i x hx with ⟨rfl, rfl⟩ | ⟨hi, x0, hx0, rfl⟩ <;> rcases hget j y hy with ⟨rfl, rfl⟩ | ⟨hj, y0, hy0, rfl⟩
    · exact absurd rfl hne
    · rw [upd_self] at hm; rw [upd_ne hj] at hm'
      rw [cleanO_alive] at hya
      have hlt := h.lt hy0 hya hm'
      rcases hl' m hm with h1 | ⟨l, h1, h2⟩
      · omega
      · rw [← h2]; exact h.apart i j o y0 hid hy0 hne hw hya l m' h1 hm'
    · rw [upd_ne hi] at hm; rw [upd_self] at hm'
      rw [cleanO_owned] at hxw
      have hlt := h.lt hx0 (owned_alive hxw) hm
      rcases hl' m' hm' with h1 | ⟨l, h1, h2⟩
      · omega
      · rw [← h2]; exact h.apart i j x0 o hx0 hid hne hxw (owned_alive hw) m l hm h1
    · rw [upd_ne hi] at hm; rw [upd_ne hj] at hm'
      exact h.apart i j x0 y0 hx0 hy0 hne (by rwa [cleanO_owned] at hxw) (by rwa [cleanO_alive] at hya) m m' hm hm'

/-- Nobody writes to a row any more. -/
theorem St.freeze {hp : Heap} {β : Beta} {H : NH} (h : St hp β H) (id : Nat) (T : TypeId) (rw' : Bool) (sz n : Nat) (get : Nat → List VV) (hid : H[id]? = some (.prow T rw' sz n get)) :
    St hp β (H.set id (.prow T false sz n get)) ∧ Good hp β H hp β (H.set id (.prow T false sz n get)) none? := by
  have hlen : id < H.length := (List.getElem?_eq_some_iff.1 hid).1
  have hget : ∀ (i : Nat) (x : NO), (H.set id (.prow T false sz n get))[i]? = some x → (i = id ∧ x = .prow T false sz n get) ∨ (i ≠ id ∧ H[i]? = some x) := by
    intro i x hx
    by_cases hi : i = id
    · subst hi; rw [List.getElem?_set_self hlen] at hx; injection hx with hx; exact .inl ⟨rfl, hx.symm⟩
    · rw [List.getElem?_set_ne (Ne.symm hi)] at hx; exact .inr ⟨hi, hx⟩
  have himm : ∀ b, Imm hp β H b → Imm hp β (H.set id (.prow T false sz n get)) b ∧ hp[b]? = hp[b]? := by
    rintro b ⟨hb, hn⟩
    refine ⟨⟨hb, ?_⟩, rfl⟩
    rintro ⟨i, x, l, hx, hxw, he⟩
    rcases hget i x hx with ⟨rfl, rfl⟩ | ⟨_, hx0⟩
    · cases hxw
    · exact hn ⟨i, x, l, hx0, hxw, he⟩
  have hkeep : ∀ i, i < H.length → none? i = false → i < (H.set id (.prow T false sz n get)).length ∧ β i = β i ∧ Shape H[i]? (H.set id (.prow T false sz n get))[i]? := by
    intro i hi _
    refine ⟨by rw [List.length_set]; exact hi, rfl, ?_⟩
    by_cases he : i = id
    · subst he
      rw [List.getElem?_set_self hlen, hid]
      exact ⟨false, get, rfl⟩
    · rw [List.getElem?_set_ne (Ne.symm he)]
      exact Shape.refl _
  have hborn : ∀ i x m, (H.set id (.prow T false sz n get))[i]? = some x → x.alive = true → β i = some m → (∃ o0, H[i]? = some o0 ∧ o0.alive = true ∧ β i = some m) ∨ ¬ Imm hp β H m.b := by
    intro i x m h1 h2 h3
    rcases hget i x h1 with ⟨rfl, rfl⟩ | ⟨hi, hx0⟩
    · exact .inl ⟨_, hid, rfl, h3⟩
    · exact .inl ⟨x, hx0, h2, h3⟩
  refine ⟨⟨fun i x hx => ?_, fun i j x y hx hy hne hxw hya m m' hm hm' => ?_⟩, ⟨himm, Nat.le_refl _⟩, weak hkeep, hborn⟩
  · rcases hget i x hx with ⟨rfl, rfl⟩ | ⟨_, hx0⟩
    · have ho := h.obj i _ hid
      cases hl : β i with
      | none => unfold ObjRep at ho; rw [hl] at ho; exact .mkNil hl ho
      | some l =>
        obtain ⟨c, fr, h1, h2, h3, h4, h5⟩ := ho.at hl
        exact .mk hl ⟨c, fr, h1, (fun e => by cases e), h3, h4, fun k hk => ⟨(h5 k hk).1, fun j x y hx hy => ⟨((h5 k hk).2 j x y hx hy).1, ((h5 k hk).2 j x y hx hy).2.mono himm⟩⟩⟩
    · have := (h.obj i x hx0).mono (A := none?) himm (weak hkeep) rfl fun _ _ _ => rfl
      rwa [show cleanO none? x = x from cleanO_none x] at this
  · rcases hget i x hx with ⟨rfl, rfl⟩ | ⟨hi, hx0⟩
    · cases hxw
    · rcases hget j y hy with ⟨rfl, rfl⟩ | ⟨hj, hy0⟩
      · exact h.apart i j x _ hx0 hid hne hxw rfl m m' hm hm'
      · exact h.apart i j x y hx0 hy0 hne hxw hya m m' hm hm'
end Go.Proofs.Eng
