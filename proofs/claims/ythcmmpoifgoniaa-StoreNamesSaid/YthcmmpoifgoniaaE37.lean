/- The engine, part 37: answers found before, by any row of plain arguments. -/
import Derived.Test.YthcmmpoifgoniaaE36
set_option linter.unusedVariables false
set_option linter.unusedSimpArgs false
namespace Go.Proofs.Eng

def kindN : IntKind → IntKind → Bool := fun a b => decide (a = b)
def eqK : NV → NV → Bool
  | .p (.v (.string s)), .p (.v (.string t)) => s.data.toList == t.data.toList
  | .p (.v (.int k i)), .p (.v (.int l j)) => if kindN k l then decide (i = j) else false
  | _, _ => false
def eqKL : List NV → List NV → Bool
  | [], [] => true
  | x :: xs, y :: ys => if eqK x y then eqKL xs ys else false
  | _, _ => false
theorem eqK_eq {x y : NV} (h : eqK x y = true) : x = y := by
  unfold eqK at h
  split at h
  · rename_i s t
    have : s = t := ba_ext (by simpa using h)
    rw [this]
  · rename_i k i l j
    split at h
    · rename_i hk
      have h1 : k = l := of_decide_eq_true hk
      have h2 : i = j := of_decide_eq_true h
      rw [h1, h2]
    · cases h
  · cases h
theorem eqKL_eq : ∀ {xs ys : List NV}, eqKL xs ys = true → xs = ys
  | [], [], _ => rfl
  | x :: xs, y :: ys, h => by
    simp only [eqKL] at h
    split at h
    · rename_i h1
      rw [eqK_eq h1, eqKL_eq h]
    · cases h
  | [], y :: ys, h => by cases h
  | x :: xs, [], h => by cases h
def askN (l : List (List NV × NV)) (H : NH) (xs : List NV) : Option COut :=
  match l with
  | [] => none
  | (ks, v) :: l => if eqKL ks xs then some ⟨false, v, H, [], []⟩ else askN l H xs
def askH (l : List (List NV × NV)) : Hook := fun xs H => askN l H xs
theorem askN_mem {l : List (List NV × NV)} {H : NH} {s : List NV} {o : COut} (h : askN l H s = some o) : ∃ v, (s, v) ∈ l ∧ o = ⟨false, v, H, [], []⟩ := by
  induction l with
  | nil => cases h
  | cons p l ih =>
    obtain ⟨t, v⟩ := p
    simp only [askN] at h
    split at h
    · rename_i he
      cases h
      have := eqKL_eq he
      subst this
      exact ⟨v, by simp, rfl⟩
    · obtain ⟨v', h1, h2⟩ := ih h
      exact ⟨v', List.mem_cons_of_mem _ h1, h2⟩
theorem askH_ok {C : Cfg} (hC : C.OK) (hG : ∀ g, flatN (C.G g) = true) {d : Nat} {f : FuncId} {l : List (List NV × NV)}
    (h : ∀ p ∈ l, flatL p.1 = true ∧ flatN p.2 = true ∧ ∃ H0 A T, callN C d (.fn f) p.1 [] = some ⟨false, p.2, H0, A, T⟩) : HookOK C.P C.G f (askH l) := by
  constructor
  · intro xs H o e W β ys hst hg hr
    obtain ⟨v, hm, rfl⟩ := askN_mem e
    obtain ⟨h0, h1, H0, A, T, h2⟩ := h _ hm
    exact flat_gives hC hG h2 h0 h1 hst hg hr
  · intro xs H o e hA id hT hid
    obtain ⟨v, hm, rfl⟩ := askN_mem e
    rfl
/-- What was run by the quick road was run by the other. -/
theorem found {C : Cfg} {d : Nat} {t : Tgt} {xs : List NV} {v : NV} (h : ((callK C d t xs []).map fun o => (o.p, o.v)) = some (false, v)) : ∃ H0 A T, callN C d t xs [] = some ⟨false, v, H0, A, T⟩ := by
  cases e : callK C d t xs [] with
  | none => rw [e] at h; cases h
  | some o =>
    rw [e] at h
    obtain ⟨p, v, H0, A, T⟩ := o
    simp only [Option.map_some, Option.some.injEq, Prod.mk.injEq] at h
    obtain ⟨rfl, rfl⟩ := h
    exact ⟨H0, A, T, callK_sim C d _ _ _ _ e⟩
end Go.Proofs.Eng
