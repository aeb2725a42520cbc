/- The engine, part 36: calls that give a value without references and change nothing, run once. -/
import Derived.Test.YthcmmpoifgoniaaE35
set_option linter.unusedVariables false
set_option linter.unusedSimpArgs false
namespace Go.Proofs.Eng

mutual
def flatV : VV → Bool
  | .v _ => true
  | .sl .. => false
  | .agg cs => flatVL cs
  | .iface _ x => flatV x
def flatVL : List VV → Bool
  | [] => true
  | x :: xs => flatV x && flatVL xs
end
mutual
/-- No reference in it. -/
def flatN : NV → Bool
  | .p x => flatV x
  | .agg xs => flatL xs
  | .tup xs => flatL xs
  | _ => false
def flatL : List NV → Bool
  | [] => true
  | x :: xs => flatN x && flatL xs
end
theorem flatVL_get {xs : List VV} (h : flatVL xs = true) {i : Nat} {x : VV} (hx : xs[i]? = some x) : flatV x = true := by
  induction xs generalizing i with
  | nil => simp at hx
  | cons y ys ih =>
    simp only [flatVL, Bool.and_eq_true] at h
    cases i with
    | zero => simp at hx; subst hx; exact h.1
    | succ i => exact ih h.2 (by simpa using hx)
theorem flatL_get {xs : List NV} (h : flatL xs = true) {i : Nat} {x : NV} (hx : xs[i]? = some x) : flatN x = true := by
  induction xs generalizing i with
  | nil => simp at hx
  | cons y ys ih =>
    simp only [flatL, Bool.and_eq_true] at h
    cases i with
    | zero => simp at hx; subst hx; exact h.1
    | succ i => exact ih h.2 (by simpa using hx)
theorem PV.flat {hp hp' : Heap} {imm imm' : Nat → Prop} {x : VV} {y : Value} (h : PV hp imm x y) (hf : flatV x = true) : PV hp' imm' x y := by
  induction h with
  | v x => exact .v x
  | sl0 => cases hf
  | sl => cases hf
  | agg xs ys hl h ih => exact .agg xs ys hl fun i x y hx hy => ih i x y hx hy (flatVL_get (by simpa only [flatV] using hf) hx)
  | iface t x y h ih => exact .iface t x y (ih (by simpa only [flatV] using hf))
theorem Rep.flat {hp hp' : Heap} {imm imm' : Nat → Prop} {β β' : Beta} {H H' : NH} {x : NV} {y : Value} (h : Rep hp imm β H x y) (hf : flatN x = true) : Rep hp' imm' β' H' x y := by
  induction h with
  | p x y h => exact .p x y (h.flat (by simpa only [flatN] using hf))
  | agg xs ys hl h ih => exact .agg xs ys hl fun i x y hx hy => ih i x y hx hy (flatL_get (by simpa only [flatN] using hf) hx)
  | tup xs ys hl h ih => exact .tup xs ys hl fun i x y hx hy => ih i x y hx hy (flatL_get (by simpa only [flatN] using hf) hx)
  | _ => cases hf
theorem step_below {β : Beta} {H : NH} {W W' : World} (h : St W.heap β H) (hb : ∀ b, b < W.heap.size → W'.heap[b]? = W.heap[b]?) (hs : W.heap.size ≤ W'.heap.size) (hw : Same W W') : Step β H W β H W' none? := by
  have him : ∀ b, Imm W.heap β H b → Imm W'.heap β H b ∧ W'.heap[b]? = W.heap[b]? := fun b hi => ⟨⟨Nat.lt_of_lt_of_le hi.1 hs, hi.2⟩, hb b hi.1⟩
  have hk : ∀ id, id < H.length → none? id = false → id < H.length ∧ Stays β H[id]? β id ∧ Shape H[id]? H[id]? := fun id hid _ => ⟨hid, .inl rfl, Shape.refl _⟩
  refine ⟨⟨fun id o ho => ?_, h.apart⟩, ⟨⟨him, hs⟩, hk, fun id o l h1 h2 h3 => .inl ⟨o, h1, h2, h3⟩⟩, hw⟩
  have := (h.obj id o ho).mono (A := none?) him hk rfl fun ha l hl => hb _ (h.lt ho ha hl)
  rwa [show cleanO none? o = o from cleanO_none o] at this

/-- Answers that were found before, by what they were asked. -/
def tabN (l : List (ByteArray × NV)) (H : NH) (s : ByteArray) : Option COut :=
  match l with
  | [] => none
  | (t, v) :: l => if t.data.toList == s.data.toList then some ⟨false, v, H, [], []⟩ else tabN l H s
def tabH (l : List (ByteArray × NV)) : Hook := fun xs H =>
  match xs with
  | [.p (.v (.string s))] => tabN l H s
  | _ => none
theorem tabN_mem {l : List (ByteArray × NV)} {H : NH} {s : ByteArray} {o : COut} (h : tabN l H s = some o) : ∃ v, (s, v) ∈ l ∧ o = ⟨false, v, H, [], []⟩ := by
  induction l with
  | nil => cases h
  | cons p l ih =>
    obtain ⟨t, v⟩ := p
    simp only [tabN] at h
    split at h
    · rename_i he
      cases h
      have : t = s := ba_ext (by simpa using he)
      subst this
      exact ⟨v, by simp, rfl⟩
    · obtain ⟨v', h1, h2⟩ := ih h
      exact ⟨v', List.mem_cons_of_mem _ h1, h2⟩
/-- A call from nothing gives the same where there are objects. -/
theorem flat_gives {C : Cfg} (hC : C.OK) (hG : ∀ g, flatN (C.G g) = true) {d : Nat} {f : FuncId} {xs : List NV} {v : NV} {H0 : NH} {A T : List Nat} (h : callN C d (.fn f) xs [] = some ⟨false, v, H0, A, T⟩)
    (hx : flatL xs = true) (hv : flatN v = true) {W : World} {β : Beta} {H : NH} {ys : Array Value} (hst : St W.heap β H) (hg : RepG W.heap (Imm W.heap β H) β H C.G) (hr : RepL W.heap (Imm W.heap β H) β H xs ys.toList) :
    Gives C.P f ys W false fun v' W' => ∃ β', Step β H W β' H W' (maskL []) ∧ Rep W'.heap (Imm W'.heap β' H) β' H v v' := by
  have hst0 : St W.heap (fun _ => none) [] := ⟨fun id o ho => by simp at ho, fun id id' o o' ho => by simp at ho⟩
  obtain ⟨h1, h2⟩ := (callN_ok hC d).gives f xs [] _ h W (fun _ => none) ys hst0 (fun g => (hg g).flat (hG g)) ⟨hr.1, fun i x y hx' hy => (hr.2 i x y hx' hy).flat (flatL_get hx hx')⟩
  refine ⟨h1, h2.mono fun e w he => ?_⟩
  cases e with
  | returned y =>
    obtain ⟨_, β', k1, k2⟩ := he
    have hb := below_of_step k1
    refine ⟨rfl, β, ?_, k2.flat hv⟩
    rw [maskL_nil]
    exact step_below hst hb.block hb.size k1.same
  | panicked c => exact absurd he.1 (by simp)
  | outgrown => exact he
theorem tabH_ok {C : Cfg} (hC : C.OK) (hG : ∀ g, flatN (C.G g) = true) {d : Nat} {f : FuncId} {l : List (ByteArray × NV)}
    (h : ∀ p ∈ l, flatN p.2 = true ∧ ∃ H0 A T, callN C d (.fn f) [.p (.v (.string p.1))] [] = some ⟨false, p.2, H0, A, T⟩) : HookOK C.P C.G f (tabH l) := by
  constructor
  · intro xs H o e W β ys hst hg hr
    unfold tabH at e
    split at e
    · obtain ⟨v, hm, rfl⟩ := tabN_mem e
      obtain ⟨h1, H0, A, T, h2⟩ := h _ hm
      exact flat_gives hC hG h2 rfl h1 hst hg hr
    · cases e
  · intro xs H o e hA id hT hid
    unfold tabH at e
    split at e
    · obtain ⟨v, hm, rfl⟩ := tabN_mem e
      rfl
    · cases e
end Go.Proofs.Eng
